/- Walks: the law DeviceRepeats. -/
import Derived.Test.YtghgegghlefclaaKF7
import Derived.Test.YtghgegghlefclaaKW42
import Derived.Test.YtghgegghlefclaaKW20
set_option linter.unusedVariables false
set_option linter.unusedSimpArgs false
set_option linter.unusedSectionVars false
namespace Go.Proofs.Ytghgegghlefclaa
open Go.RowKit
set_option maxHeartbeats 4000000
set_option maxRecDepth 8000
theorem Few.doW2 {d : Dev} (h : Few d) (kn : Nat) (y : Wr) (ht : d.table.length ≤ 900 := by omega) (hd : d.done.length ≤ 900 := by omega) : Few (doW d kn y) := by
  refine ⟨?_, ?_, h.l⟩
  · show (if hasI d.lost y.seq = true then d.table else putT d.table d.room y).length ≤ 1000
    split
    · omega
    · have := len_putT d.table d.room y; omega
  · show (if isPut d y = true then insI y.seq d.done else d.done).length ≤ 1000
    split
    · rw [len_insI]; omega
    · omega
theorem rep_1 (d : Dev) (x : Wr) (ta qa da la : Option Addr) (tc qc dc lc : Nat) (w : World) (h : DevR w NoM d ta tc qa qc da dc la lc) (hot : ∀ r ∈ d.table, OutR w r) (hoq : ∀ y ∈ d.queue, OutR w y.rule) (ht : d.table.length ≤ 9223372036854775807) (hq : d.queue.length ≤ 9223372036854775807) (hox : OutR w x.rule) (hlt : x.ep ≤ d.ep) :
    Calls Try.prog 8 #[.agg (devC d ta tc qa qc da dc la lc), .agg (wrC x)] w fun e w' => e = .returned (.bool true) ∧ Kept NoM w w' := by
  have HLT := Lib.hid hlt
  clear hlt
  have HOX := Lib.hid (fun wx (k : Kept NoM w wx) => hox.kept k)
  clear hox
  have K0 := (((Kept.refl NoM w).alloc (.cells (devC d ta tc qa qc da dc la lc) 27)).alloc (.cells (wrC x) 41))
  have HD := Lib.hid (blk_old (blk_new w (.cells (devC d ta tc qa qc da dc la lc) 27)) (.cells (wrC x) 41))
  have HX := Lib.hid (blk_new' (w.alloc (.cells (devC d ta tc qa qc da dc la lc) 27)) (.cells (wrC x) 41) (w.heap.size + 1) (by simp))
  have KW := Lib.hid K0
  have RR := Lib.hid (h.kept K0.of_no)
  have OT := Lib.hid (fun wx (k : Kept NoM w wx) r hr => (hot r hr).kept k)
  have OQ := Lib.hid (fun wx (k : Kept NoM w wx) y hy => (hoq y hy).kept k)
  clear K0 h hot hoq
  go_enter Try.func8, Try.ntmps8
  go_wp2_with fail
  refine (sanity_ok _).mono ?_
  rintro e w1 ⟨rfl, kk⟩
  replace HD := Lib.hid (kk.blk HD.out (fun x => x))
  replace HX := Lib.hid (kk.blk HX.out (fun x => x))
  replace RR := Lib.hid (RR.out.kept kk)
  replace KW := Lib.hid (KW.out.trans kk)
  clear kk
  go_wp2_with (first
        | (refine wpList_load_big bigDev rfl _ rfl w.heap.size 0 (devC d ta tc qa qc da dc la lc) rfl (range_blk HD.out) rfl ?_))
  refine (right_ok d ta qa da la tc qc dc lc NoM w1 RR.out (OT.out _ KW.out) (OQ.out _ KW.out) ht hq).mono ?_
  rintro e w2 ⟨b1, rfl, hb1, kk⟩
  clear OT OQ
  replace HD := Lib.hid (kk.blk HD.out (fun x => x))
  replace HX := Lib.hid (kk.blk HX.out (fun x => x))
  replace RR := Lib.hid (RR.out.kept kk)
  replace KW := Lib.hid (KW.out.trans kk)
  clear kk
  cases b1 with
  | false =>
    go_wp2_with fail
    go_ret
    exact ⟨rfl, KW.out⟩
  | true =>
    obtain ⟨⟨hfew, hdb⟩, R⟩ := hb1 rfl
    have HB := Lib.hid hdb
    have RDD := Lib.hid R
    have FW : Hid (Few d) := Lib.hid ⟨by omega, by omega, by omega⟩
    have HFEW := Lib.hid hfew
    clear hb1 hdb R hfew
    go_wp2_with (first
          | (refine wpList_load_bigG bigWr (by rfl) _ rfl (w.heap.size + 1) 0 (wrC x) rfl (range_blk HX.out) rfl ?_))
    have ka := (Kept.refl NoM w2).alloc (.cells (wrC x) 41)
    replace HD := Lib.hid (ka.blk HD.out (fun x => x))
    replace HX := Lib.hid (ka.blk HX.out (fun x => x))
    replace RR := Lib.hid (RR.out.kept ka)
    replace HB := Lib.hid (HB.out.kept ka)
    replace KW := Lib.hid (KW.out.trans ka)
    refine (formedl_ok _ [x] NoM 1 _ (rd_one (blk_new w2 _) (fun x => x) rfl rfl) (by simp) (fun y hy => by rw [List.mem_singleton] at hy; subst hy; exact HOX.out _ KW.out)).mono ?_
    rintro e w3 ⟨b2, rfl, hb2, kk⟩
    have kx := ka.trans kk
    clear ka
    replace HD := Lib.hid (kk.blk HD.out (fun x => x))
    replace HX := Lib.hid (kk.blk HX.out (fun x => x))
    replace RR := Lib.hid (RR.out.kept kk)
    replace HB := Lib.hid (HB.out.kept kk)
    replace KW := Lib.hid (KW.out.trans kk)
    cases b2 with
    | false =>
      go_wp2_with fail
      go_ret
      exact ⟨rfl, KW.out⟩
    | true =>
      obtain ⟨⟨_, hox2⟩, hfx⟩ := hb2 rfl
      have FX := Lib.hid (hfx x (List.mem_singleton.2 rfl))
      have OX := Lib.hid ((hox2 x (List.mem_singleton.2 rfl)).kept kk)
      clear hb2 hox2 hfx kx kk HOX
      have x0 := cell_blk HX.out 0 _ (wrC_0 x)
      have z1 := cell_blk HD.out 1 _ dv1
      have f1 : decide (x.ep ≤ d.ep) = true := decide_eq_true HLT.out
      go_wp2_with fail
      go_ret
      exact ⟨rfl, KW.out⟩
theorem rep_2 (d : Dev) (x : Wr) (ta qa da la : Option Addr) (tc qc dc lc : Nat) (w : World) (h : DevR w NoM d ta tc qa qc da dc la lc) (hot : ∀ r ∈ d.table, OutR w r) (hoq : ∀ y ∈ d.queue, OutR w y.rule) (ht : d.table.length ≤ 9223372036854775807) (hq : d.queue.length ≤ 9223372036854775807) (hox : OutR w x.rule) (hlt : d.ep < x.ep) (hdn : (doW (recvD d x) 0 x).done.length = 0) :
    Calls Try.prog 8 #[.agg (devC d ta tc qa qc da dc la lc), .agg (wrC x)] w fun e w' => e = .returned (.bool true) ∧ Kept NoM w w' := by
  have HLT := Lib.hid hlt
  have HDN := Lib.hid hdn
  clear hdn
  clear hlt
  have HOX := Lib.hid (fun wx (k : Kept NoM w wx) => hox.kept k)
  clear hox
  have K0 := (((Kept.refl NoM w).alloc (.cells (devC d ta tc qa qc da dc la lc) 27)).alloc (.cells (wrC x) 41))
  have HD := Lib.hid (blk_old (blk_new w (.cells (devC d ta tc qa qc da dc la lc) 27)) (.cells (wrC x) 41))
  have HX := Lib.hid (blk_new' (w.alloc (.cells (devC d ta tc qa qc da dc la lc) 27)) (.cells (wrC x) 41) (w.heap.size + 1) (by simp))
  have KW := Lib.hid K0
  have RR := Lib.hid (h.kept K0.of_no)
  have OT := Lib.hid (fun wx (k : Kept NoM w wx) r hr => (hot r hr).kept k)
  have OQ := Lib.hid (fun wx (k : Kept NoM w wx) y hy => (hoq y hy).kept k)
  clear K0 h hot hoq
  go_enter Try.func8, Try.ntmps8
  go_wp2_with fail
  refine (sanity_ok _).mono ?_
  rintro e w1 ⟨rfl, kk⟩
  replace HD := Lib.hid (kk.blk HD.out (fun x => x))
  replace HX := Lib.hid (kk.blk HX.out (fun x => x))
  replace RR := Lib.hid (RR.out.kept kk)
  replace KW := Lib.hid (KW.out.trans kk)
  clear kk
  go_wp2_with (first
        | (refine wpList_load_big bigDev rfl _ rfl w.heap.size 0 (devC d ta tc qa qc da dc la lc) rfl (range_blk HD.out) rfl ?_))
  refine (right_ok d ta qa da la tc qc dc lc NoM w1 RR.out (OT.out _ KW.out) (OQ.out _ KW.out) ht hq).mono ?_
  rintro e w2 ⟨b1, rfl, hb1, kk⟩
  clear OT OQ
  replace HD := Lib.hid (kk.blk HD.out (fun x => x))
  replace HX := Lib.hid (kk.blk HX.out (fun x => x))
  replace RR := Lib.hid (RR.out.kept kk)
  replace KW := Lib.hid (KW.out.trans kk)
  clear kk
  cases b1 with
  | false =>
    go_wp2_with fail
    go_ret
    exact ⟨rfl, KW.out⟩
  | true =>
    obtain ⟨⟨hfew, hdb⟩, R⟩ := hb1 rfl
    have HB := Lib.hid hdb
    have RDD := Lib.hid R
    have FW : Hid (Few d) := Lib.hid ⟨by omega, by omega, by omega⟩
    have HFEW := Lib.hid hfew
    clear hb1 hdb R hfew
    go_wp2_with (first
          | (refine wpList_load_bigG bigWr (by rfl) _ rfl (w.heap.size + 1) 0 (wrC x) rfl (range_blk HX.out) rfl ?_))
    have ka := (Kept.refl NoM w2).alloc (.cells (wrC x) 41)
    replace HD := Lib.hid (ka.blk HD.out (fun x => x))
    replace HX := Lib.hid (ka.blk HX.out (fun x => x))
    replace RR := Lib.hid (RR.out.kept ka)
    replace HB := Lib.hid (HB.out.kept ka)
    replace KW := Lib.hid (KW.out.trans ka)
    refine (formedl_ok _ [x] NoM 1 _ (rd_one (blk_new w2 _) (fun x => x) rfl rfl) (by simp) (fun y hy => by rw [List.mem_singleton] at hy; subst hy; exact HOX.out _ KW.out)).mono ?_
    rintro e w3 ⟨b2, rfl, hb2, kk⟩
    have kx := ka.trans kk
    clear ka
    replace HD := Lib.hid (kk.blk HD.out (fun x => x))
    replace HX := Lib.hid (kk.blk HX.out (fun x => x))
    replace RR := Lib.hid (RR.out.kept kk)
    replace HB := Lib.hid (HB.out.kept kk)
    replace KW := Lib.hid (KW.out.trans kk)
    cases b2 with
    | false =>
      go_wp2_with fail
      go_ret
      exact ⟨rfl, KW.out⟩
    | true =>
      obtain ⟨⟨_, hox2⟩, hfx⟩ := hb2 rfl
      have FX := Lib.hid (hfx x (List.mem_singleton.2 rfl))
      have OX := Lib.hid ((hox2 x (List.mem_singleton.2 rfl)).kept kk)
      clear hb2 hox2 hfx kx kk HOX
      have x0 := cell_blk HX.out 0 _ (wrC_0 x)
      have z1 := cell_blk HD.out 1 _ dv1
      have f1 : decide (x.ep ≤ d.ep) = false := decide_eq_false (by have := HLT.out; omega)
      have RA := Lib.hid (RDD.out.recv FX.out)
      have FA := Lib.hid (FW.out.recv x)
      have QA : Hid ((recvD d x).queue = [x]) := Lib.hid (by rw [recv_new HLT.out])
      have TW := Lib.hid (recv_twice HLT.out)
      go_wp2_with (first
            | (refine wpList_load_big bigDev rfl _ rfl w.heap.size 0 (devC d ta tc qa qc da dc la lc) rfl (range_blk HD.out) rfl ?_)
            | (refine wpList_load_big bigWr rfl _ rfl (w.heap.size + 1) 0 (wrC x) rfl (range_blk HX.out) rfl ?_))
      refine (recv_ok _ d x NoM w3 ⟨_, _, _, _, _, _, _, _, rfl, RR.out⟩ noM_lt RDD.out.ql FW.out.dn (fun wx _ => by have := formed_ok x wx (by have := (formed_kind FX.out).1; omega) (by have := (formed_kind FX.out).1; omega); rw [FX.out] at this; exact this)).mono ?_
      rintro e w4 ⟨v7, av7, rfl, dd7, aa7, kk⟩
      obtain ⟨ta4, tc4, qa4, qc4, da4, dc4, la4, lc4, rfl, r7⟩ := dd7
      obtain ⟨aa4, ac4, ea7, _, _⟩ := aa7.shape
      have ea8 : av7 = .slice aa4 (recvA d x).length ac4 := ea7
      subst ea8
      clear ea7
      replace HD := Lib.hid (kk.blk HD.out (fun x => x))
      replace HX := Lib.hid (kk.blk HX.out (fun x => x))
      replace RR := Lib.hid (RR.out.kept kk)
      replace HB := Lib.hid (HB.out.kept kk)
      replace OX := Lib.hid (OX.out.kept kk)
      replace KW := Lib.hid (KW.out.trans kk)
      clear kk
      have kk := (Kept.refl NoM w4).alloc (.cells (devC (recvD d x) ta4 tc4 qa4 qc4 da4 dc4 la4 lc4) 27)
      replace HD := Lib.hid (kk.blk HD.out (fun x => x))
      replace HX := Lib.hid (kk.blk HX.out (fun x => x))
      replace RR := Lib.hid (RR.out.kept kk)
      replace HB := Lib.hid (HB.out.kept kk)
      replace OX := Lib.hid (OX.out.kept kk)
      replace KW := Lib.hid (KW.out.trans kk)
      have HA := Lib.hid (blk_new w4 (.cells (devC (recvD d x) ta4 tc4 qa4 qc4 da4 dc4 la4 lc4) 27))
      have RrA := Lib.hid (r7.kept kk)
      have AA := Lib.hid (aa7.kept kk.of_no (M := NoM) (fun _ _ x => x))
      clear kk r7 aa7
      clear x0 z1 f1
      go_wp2_with (first
            | (refine wpList_alloc_Z rfl 27 rfl _ (devZ _) ?_)
            | (refine wpList_store_bign (cs := devC (recvD d x) ta4 tc4 qa4 qc4 da4 dc4 la4 lc4) bigDev rfl _ _ rfl _ rfl rfl rfl rfl rfl (dev1 _ _ _ _ _ _ _ _ _) ?_)
            | (refine wpList_load_big bigDev rfl _ rfl w4.heap.size 0 (devC (recvD d x) ta4 tc4 qa4 qc4 da4 dc4 la4 lc4) rfl (range_blk HA.out) rfl ?_)
            | (refine wpList_load_big bigWr rfl _ rfl (w.heap.size + 1) 0 (wrC x) rfl (range_blk HX.out) rfl ?_))
      generalize w4.heap.size = BA at *
      generalize w4.alloc (.cells (devC (recvD d x) ta4 tc4 qa4 qc4 da4 dc4 la4 lc4) 27) = uA at *
      have hcall := recv_ok _ (recvD d x) x NoM uA ⟨_, _, _, _, _, _, _, _, rfl, RrA.out⟩ noM_lt RA.out.ql FA.out.dn (fun wx _ => by have := formed_ok x wx (by have := (formed_kind FX.out).1; omega) (by have := (formed_kind FX.out).1; omega); rw [FX.out] at this; exact this)
      rw [TW.out] at hcall
      refine (hcall).mono ?_
      rintro e w5 ⟨v7, av7, rfl, dd7, aa7, kk⟩
      obtain ⟨ta5, tc5, qa5, qc5, da5, dc5, la5, lc5, rfl, r7⟩ := dd7
      obtain ⟨aa5, ac5, ea7, _, _⟩ := aa7.shape
      have ea8 : av7 = .slice aa5 (recvA (recvD d x) x).length ac5 := ea7
      subst ea8
      clear ea7
      replace HD := Lib.hid (kk.blk HD.out (fun x => x))
      replace HX := Lib.hid (kk.blk HX.out (fun x => x))
      replace HA := Lib.hid (kk.blk HA.out (fun x => x))
      replace RR := Lib.hid (RR.out.kept kk)
      replace HB := Lib.hid (HB.out.kept kk)
      replace OX := Lib.hid (OX.out.kept kk)
      replace RrA := Lib.hid (RrA.out.kept kk)
      replace AA := Lib.hid (AA.out.kept kk.of_no (fun _ _ x => x))
      replace KW := Lib.hid (KW.out.trans kk)
      clear kk
      have kk := (Kept.refl NoM w5).alloc (.cells (devC (recvD d x) ta5 tc5 qa5 qc5 da5 dc5 la5 lc5) 27)
      replace HD := Lib.hid (kk.blk HD.out (fun x => x))
      replace HX := Lib.hid (kk.blk HX.out (fun x => x))
      replace HA := Lib.hid (kk.blk HA.out (fun x => x))
      replace RR := Lib.hid (RR.out.kept kk)
      replace HB := Lib.hid (HB.out.kept kk)
      replace OX := Lib.hid (OX.out.kept kk)
      replace RrA := Lib.hid (RrA.out.kept kk)
      replace AA := Lib.hid (AA.out.kept kk.of_no (fun _ _ x => x))
      replace KW := Lib.hid (KW.out.trans kk)
      have HB5 := Lib.hid (blk_new w5 (.cells (devC (recvD d x) ta5 tc5 qa5 qc5 da5 dc5 la5 lc5) 27))
      have RrB5 := Lib.hid (r7.kept kk)
      have AB5 := Lib.hid (aa7.kept kk.of_no (M := NoM) (fun _ _ x => x))
      clear kk r7 aa7
      clear hcall
      have y3 : ∀ wz, wz = w5.alloc (.cells (devC (recvD d x) ta5 tc5 qa5 qc5 da5 dc5 la5 lc5) 27) → wz.cell? ⟨BA, 3, none⟩ = some (.slice qa4 1 qc4) := by rintro wz rfl; have hy := cell_blk HA.out 3 _ dv3; rw [QA.out] at hy; exact hy
      have y3 := y3 _ rfl
      go_wp2_with (first
            | (refine wpList_alloc_Z rfl 27 rfl _ (devZ _) ?_)
            | (refine wpList_store_bign (cs := devC (recvD d x) ta5 tc5 qa5 qc5 da5 dc5 la5 lc5) bigDev rfl _ _ rfl _ rfl rfl rfl rfl rfl (dev1 _ _ _ _ _ _ _ _ _) ?_)
            | (refine wpList_load_bigG bigDev (by rfl) _ rfl BA 0 (devC (recvD d x) ta4 tc4 qa4 qc4 da4 dc4 la4 lc4) rfl (range_blk HA.out) rfl ?_)
            | (refine wpList_load_bigG bigDev (by rfl) _ rfl w5.heap.size 0 (devC (recvD d x) ta5 tc5 qa5 qc5 da5 dc5 la5 lc5) rfl (range_blk HB5.out) rfl ?_))
      generalize w5.heap.size = BB at *
      generalize w5.alloc (.cells (devC (recvD d x) ta5 tc5 qa5 qc5 da5 dc5 la5 lc5) 27) = uB at *
      clear y3
      have hbA : DevB uB (recvD d x) := DevB.recv HB.out OX.out RDD.out
      refine (dsame_ok _ _ (recvD d x) NoM NoM uB ⟨_, _, _, _, _, _, _, _, rfl, RrA.out⟩ ⟨_, _, _, _, _, _, _, _, rfl, RrB5.out⟩ hbA).mono ?_
      rintro e w6 ⟨rfl, kk⟩
      replace HD := Lib.hid (kk.blk HD.out (fun x => x))
      replace HX := Lib.hid (kk.blk HX.out (fun x => x))
      replace HA := Lib.hid (kk.blk HA.out (fun x => x))
      replace HB5 := Lib.hid (kk.blk HB5.out (fun x => x))
      replace RR := Lib.hid (RR.out.kept kk)
      replace HB := Lib.hid (HB.out.kept kk)
      replace OX := Lib.hid (OX.out.kept kk)
      replace RrA := Lib.hid (RrA.out.kept kk)
      replace RrB5 := Lib.hid (RrB5.out.kept kk)
      replace AA := Lib.hid (AA.out.kept kk.of_no (fun _ _ x => x))
      replace AB5 := Lib.hid (AB5.out.kept kk.of_no (fun _ _ x => x))
      replace KW := Lib.hid (KW.out.trans kk)
      clear kk
      clear hbA
      have HQ0 := Lib.hid (show (recvD d x).queue[0]? = some x by rw [QA.out]; rfl)
      have HRZ := Lib.hid (show rdyB (recvD d x).queue 0 = true from rdy_zero (by rw [QA.out]; simp))
      go_wp2_with (first
            | (refine wpList_load_big bigDev rfl _ rfl BB 0 (devC (recvD d x) ta5 tc5 qa5 qc5 da5 dc5 la5 lc5) rfl (range_blk HB5.out) rfl ?_))
      refine (do_ok _ (recvD d x) 0 x NoM w6 ⟨_, _, _, _, _, _, _, _, rfl, RrB5.out⟩ noM_lt RA.out FA.out HQ0.out HRZ.out).mono ?_
      rintro e w7 ⟨v7, av7, rfl, dd7, aa7, kk⟩
      obtain ⟨ta6, tc6, qa6, qc6, da6, dc6, la6, lc6, rfl, r7⟩ := dd7
      obtain ⟨aa6, ac6, ea7, _, _⟩ := aa7.shape
      have ea8 : av7 = .slice aa6 (doA (recvD d x) x).length ac6 := ea7
      subst ea8
      clear ea7
      replace HD := Lib.hid (kk.blk HD.out (fun x => x))
      replace HX := Lib.hid (kk.blk HX.out (fun x => x))
      replace HA := Lib.hid (kk.blk HA.out (fun x => x))
      replace HB5 := Lib.hid (kk.blk HB5.out (fun x => x))
      replace RR := Lib.hid (RR.out.kept kk)
      replace HB := Lib.hid (HB.out.kept kk)
      replace OX := Lib.hid (OX.out.kept kk)
      replace RrA := Lib.hid (RrA.out.kept kk)
      replace RrB5 := Lib.hid (RrB5.out.kept kk)
      replace AA := Lib.hid (AA.out.kept kk.of_no (fun _ _ x => x))
      replace AB5 := Lib.hid (AB5.out.kept kk.of_no (fun _ _ x => x))
      replace KW := Lib.hid (KW.out.trans kk)
      clear kk
      have kk := (Kept.refl NoM w7).alloc (.cells (devC (doW (recvD d x) 0 x) ta6 tc6 qa6 qc6 da6 dc6 la6 lc6) 27)
      replace HD := Lib.hid (kk.blk HD.out (fun x => x))
      replace HX := Lib.hid (kk.blk HX.out (fun x => x))
      replace HA := Lib.hid (kk.blk HA.out (fun x => x))
      replace HB5 := Lib.hid (kk.blk HB5.out (fun x => x))
      replace RR := Lib.hid (RR.out.kept kk)
      replace HB := Lib.hid (HB.out.kept kk)
      replace OX := Lib.hid (OX.out.kept kk)
      replace RrA := Lib.hid (RrA.out.kept kk)
      replace RrB5 := Lib.hid (RrB5.out.kept kk)
      replace AA := Lib.hid (AA.out.kept kk.of_no (fun _ _ x => x))
      replace AB5 := Lib.hid (AB5.out.kept kk.of_no (fun _ _ x => x))
      replace KW := Lib.hid (KW.out.trans kk)
      have HC := Lib.hid (blk_new w7 (.cells (devC (doW (recvD d x) 0 x) ta6 tc6 qa6 qc6 da6 dc6 la6 lc6) 27))
      have RrC := Lib.hid (r7.kept kk)
      have AC := Lib.hid (aa7.kept kk.of_no (M := NoM) (fun _ _ x => x))
      clear kk r7 aa7
      have y4 : ∀ wz, wz = w7.alloc (.cells (devC (doW (recvD d x) 0 x) ta6 tc6 qa6 qc6 da6 dc6 la6 lc6) 27) → wz.cell? ⟨w7.heap.size, 4, none⟩ = some (.slice da6 0 dc6) := by rintro wz rfl; have hy := cell_blk HC.out 4 _ dv4; rw [HDN.out] at hy; exact hy
      have y4 := y4 _ rfl
      go_wp2_with (first
            | (refine wpList_alloc_Z rfl 27 rfl _ (devZ _) ?_)
            | (refine wpList_store_bign (cs := devC (doW (recvD d x) 0 x) ta6 tc6 qa6 qc6 da6 dc6 la6 lc6) bigDev rfl _ _ rfl _ rfl rfl rfl rfl rfl (dev1 _ _ _ _ _ _ _ _ _) ?_))
      go_ret
      exact ⟨rfl, KW.out⟩
theorem rep_3 (d : Dev) (x : Wr) (ta qa da la : Option Addr) (tc qc dc lc : Nat) (w : World) (h : DevR w NoM d ta tc qa qc da dc la lc) (hot : ∀ r ∈ d.table, OutR w r) (hoq : ∀ y ∈ d.queue, OutR w y.rule) (ht : d.table.length ≤ 9223372036854775807) (hq : d.queue.length ≤ 9223372036854775807) (hox : OutR w x.rule) (hlt : d.ep < x.ep) (hdn : 0 < (doW (recvD d x) 0 x).done.length) :
    Calls Try.prog 8 #[.agg (devC d ta tc qa qc da dc la lc), .agg (wrC x)] w fun e w' => e = .returned (.bool true) ∧ Kept NoM w w' := by
  have HLT := Lib.hid hlt
  have HDN := Lib.hid hdn
  clear hdn
  clear hlt
  have HOX := Lib.hid (fun wx (k : Kept NoM w wx) => hox.kept k)
  clear hox
  have K0 := (((Kept.refl NoM w).alloc (.cells (devC d ta tc qa qc da dc la lc) 27)).alloc (.cells (wrC x) 41))
  have HD := Lib.hid (blk_old (blk_new w (.cells (devC d ta tc qa qc da dc la lc) 27)) (.cells (wrC x) 41))
  have HX := Lib.hid (blk_new' (w.alloc (.cells (devC d ta tc qa qc da dc la lc) 27)) (.cells (wrC x) 41) (w.heap.size + 1) (by simp))
  have KW := Lib.hid K0
  have RR := Lib.hid (h.kept K0.of_no)
  have OT := Lib.hid (fun wx (k : Kept NoM w wx) r hr => (hot r hr).kept k)
  have OQ := Lib.hid (fun wx (k : Kept NoM w wx) y hy => (hoq y hy).kept k)
  clear K0 h hot hoq
  go_enter Try.func8, Try.ntmps8
  go_wp2_with fail
  refine (sanity_ok _).mono ?_
  rintro e w1 ⟨rfl, kk⟩
  replace HD := Lib.hid (kk.blk HD.out (fun x => x))
  replace HX := Lib.hid (kk.blk HX.out (fun x => x))
  replace RR := Lib.hid (RR.out.kept kk)
  replace KW := Lib.hid (KW.out.trans kk)
  clear kk
  go_wp2_with (first
        | (refine wpList_load_big bigDev rfl _ rfl w.heap.size 0 (devC d ta tc qa qc da dc la lc) rfl (range_blk HD.out) rfl ?_))
  refine (right_ok d ta qa da la tc qc dc lc NoM w1 RR.out (OT.out _ KW.out) (OQ.out _ KW.out) ht hq).mono ?_
  rintro e w2 ⟨b1, rfl, hb1, kk⟩
  clear OT OQ
  replace HD := Lib.hid (kk.blk HD.out (fun x => x))
  replace HX := Lib.hid (kk.blk HX.out (fun x => x))
  replace RR := Lib.hid (RR.out.kept kk)
  replace KW := Lib.hid (KW.out.trans kk)
  clear kk
  cases b1 with
  | false =>
    go_wp2_with fail
    go_ret
    exact ⟨rfl, KW.out⟩
  | true =>
    obtain ⟨⟨hfew, hdb⟩, R⟩ := hb1 rfl
    have HB := Lib.hid hdb
    have RDD := Lib.hid R
    have FW : Hid (Few d) := Lib.hid ⟨by omega, by omega, by omega⟩
    have HFEW := Lib.hid hfew
    clear hb1 hdb R hfew
    go_wp2_with (first
          | (refine wpList_load_bigG bigWr (by rfl) _ rfl (w.heap.size + 1) 0 (wrC x) rfl (range_blk HX.out) rfl ?_))
    have ka := (Kept.refl NoM w2).alloc (.cells (wrC x) 41)
    replace HD := Lib.hid (ka.blk HD.out (fun x => x))
    replace HX := Lib.hid (ka.blk HX.out (fun x => x))
    replace RR := Lib.hid (RR.out.kept ka)
    replace HB := Lib.hid (HB.out.kept ka)
    replace KW := Lib.hid (KW.out.trans ka)
    refine (formedl_ok _ [x] NoM 1 _ (rd_one (blk_new w2 _) (fun x => x) rfl rfl) (by simp) (fun y hy => by rw [List.mem_singleton] at hy; subst hy; exact HOX.out _ KW.out)).mono ?_
    rintro e w3 ⟨b2, rfl, hb2, kk⟩
    have kx := ka.trans kk
    clear ka
    replace HD := Lib.hid (kk.blk HD.out (fun x => x))
    replace HX := Lib.hid (kk.blk HX.out (fun x => x))
    replace RR := Lib.hid (RR.out.kept kk)
    replace HB := Lib.hid (HB.out.kept kk)
    replace KW := Lib.hid (KW.out.trans kk)
    cases b2 with
    | false =>
      go_wp2_with fail
      go_ret
      exact ⟨rfl, KW.out⟩
    | true =>
      obtain ⟨⟨_, hox2⟩, hfx⟩ := hb2 rfl
      have FX := Lib.hid (hfx x (List.mem_singleton.2 rfl))
      have OX := Lib.hid ((hox2 x (List.mem_singleton.2 rfl)).kept kk)
      clear hb2 hox2 hfx kx kk HOX
      have x0 := cell_blk HX.out 0 _ (wrC_0 x)
      have z1 := cell_blk HD.out 1 _ dv1
      have f1 : decide (x.ep ≤ d.ep) = false := decide_eq_false (by have := HLT.out; omega)
      have RA := Lib.hid (RDD.out.recv FX.out)
      have FA := Lib.hid (FW.out.recv x)
      have QA : Hid ((recvD d x).queue = [x]) := Lib.hid (by rw [recv_new HLT.out])
      have TW := Lib.hid (recv_twice HLT.out)
      go_wp2_with (first
            | (refine wpList_load_big bigDev rfl _ rfl w.heap.size 0 (devC d ta tc qa qc da dc la lc) rfl (range_blk HD.out) rfl ?_)
            | (refine wpList_load_big bigWr rfl _ rfl (w.heap.size + 1) 0 (wrC x) rfl (range_blk HX.out) rfl ?_))
      refine (recv_ok _ d x NoM w3 ⟨_, _, _, _, _, _, _, _, rfl, RR.out⟩ noM_lt RDD.out.ql FW.out.dn (fun wx _ => by have := formed_ok x wx (by have := (formed_kind FX.out).1; omega) (by have := (formed_kind FX.out).1; omega); rw [FX.out] at this; exact this)).mono ?_
      rintro e w4 ⟨v7, av7, rfl, dd7, aa7, kk⟩
      obtain ⟨ta4, tc4, qa4, qc4, da4, dc4, la4, lc4, rfl, r7⟩ := dd7
      obtain ⟨aa4, ac4, ea7, _, _⟩ := aa7.shape
      have ea8 : av7 = .slice aa4 (recvA d x).length ac4 := ea7
      subst ea8
      clear ea7
      replace HD := Lib.hid (kk.blk HD.out (fun x => x))
      replace HX := Lib.hid (kk.blk HX.out (fun x => x))
      replace RR := Lib.hid (RR.out.kept kk)
      replace HB := Lib.hid (HB.out.kept kk)
      replace OX := Lib.hid (OX.out.kept kk)
      replace KW := Lib.hid (KW.out.trans kk)
      clear kk
      have kk := (Kept.refl NoM w4).alloc (.cells (devC (recvD d x) ta4 tc4 qa4 qc4 da4 dc4 la4 lc4) 27)
      replace HD := Lib.hid (kk.blk HD.out (fun x => x))
      replace HX := Lib.hid (kk.blk HX.out (fun x => x))
      replace RR := Lib.hid (RR.out.kept kk)
      replace HB := Lib.hid (HB.out.kept kk)
      replace OX := Lib.hid (OX.out.kept kk)
      replace KW := Lib.hid (KW.out.trans kk)
      have HA := Lib.hid (blk_new w4 (.cells (devC (recvD d x) ta4 tc4 qa4 qc4 da4 dc4 la4 lc4) 27))
      have RrA := Lib.hid (r7.kept kk)
      have AA := Lib.hid (aa7.kept kk.of_no (M := NoM) (fun _ _ x => x))
      clear kk r7 aa7
      clear x0 z1 f1
      go_wp2_with (first
            | (refine wpList_alloc_Z rfl 27 rfl _ (devZ _) ?_)
            | (refine wpList_store_bign (cs := devC (recvD d x) ta4 tc4 qa4 qc4 da4 dc4 la4 lc4) bigDev rfl _ _ rfl _ rfl rfl rfl rfl rfl (dev1 _ _ _ _ _ _ _ _ _) ?_)
            | (refine wpList_load_big bigDev rfl _ rfl w4.heap.size 0 (devC (recvD d x) ta4 tc4 qa4 qc4 da4 dc4 la4 lc4) rfl (range_blk HA.out) rfl ?_)
            | (refine wpList_load_big bigWr rfl _ rfl (w.heap.size + 1) 0 (wrC x) rfl (range_blk HX.out) rfl ?_))
      generalize w4.heap.size = BA at *
      generalize w4.alloc (.cells (devC (recvD d x) ta4 tc4 qa4 qc4 da4 dc4 la4 lc4) 27) = uA at *
      have hcall := recv_ok _ (recvD d x) x NoM uA ⟨_, _, _, _, _, _, _, _, rfl, RrA.out⟩ noM_lt RA.out.ql FA.out.dn (fun wx _ => by have := formed_ok x wx (by have := (formed_kind FX.out).1; omega) (by have := (formed_kind FX.out).1; omega); rw [FX.out] at this; exact this)
      rw [TW.out] at hcall
      refine (hcall).mono ?_
      rintro e w5 ⟨v7, av7, rfl, dd7, aa7, kk⟩
      obtain ⟨ta5, tc5, qa5, qc5, da5, dc5, la5, lc5, rfl, r7⟩ := dd7
      obtain ⟨aa5, ac5, ea7, _, _⟩ := aa7.shape
      have ea8 : av7 = .slice aa5 (recvA (recvD d x) x).length ac5 := ea7
      subst ea8
      clear ea7
      replace HD := Lib.hid (kk.blk HD.out (fun x => x))
      replace HX := Lib.hid (kk.blk HX.out (fun x => x))
      replace HA := Lib.hid (kk.blk HA.out (fun x => x))
      replace RR := Lib.hid (RR.out.kept kk)
      replace HB := Lib.hid (HB.out.kept kk)
      replace OX := Lib.hid (OX.out.kept kk)
      replace RrA := Lib.hid (RrA.out.kept kk)
      replace AA := Lib.hid (AA.out.kept kk.of_no (fun _ _ x => x))
      replace KW := Lib.hid (KW.out.trans kk)
      clear kk
      have kk := (Kept.refl NoM w5).alloc (.cells (devC (recvD d x) ta5 tc5 qa5 qc5 da5 dc5 la5 lc5) 27)
      replace HD := Lib.hid (kk.blk HD.out (fun x => x))
      replace HX := Lib.hid (kk.blk HX.out (fun x => x))
      replace HA := Lib.hid (kk.blk HA.out (fun x => x))
      replace RR := Lib.hid (RR.out.kept kk)
      replace HB := Lib.hid (HB.out.kept kk)
      replace OX := Lib.hid (OX.out.kept kk)
      replace RrA := Lib.hid (RrA.out.kept kk)
      replace AA := Lib.hid (AA.out.kept kk.of_no (fun _ _ x => x))
      replace KW := Lib.hid (KW.out.trans kk)
      have HB5 := Lib.hid (blk_new w5 (.cells (devC (recvD d x) ta5 tc5 qa5 qc5 da5 dc5 la5 lc5) 27))
      have RrB5 := Lib.hid (r7.kept kk)
      have AB5 := Lib.hid (aa7.kept kk.of_no (M := NoM) (fun _ _ x => x))
      clear kk r7 aa7
      clear hcall
      have y3 : ∀ wz, wz = w5.alloc (.cells (devC (recvD d x) ta5 tc5 qa5 qc5 da5 dc5 la5 lc5) 27) → wz.cell? ⟨BA, 3, none⟩ = some (.slice qa4 1 qc4) := by rintro wz rfl; have hy := cell_blk HA.out 3 _ dv3; rw [QA.out] at hy; exact hy
      have y3 := y3 _ rfl
      go_wp2_with (first
            | (refine wpList_alloc_Z rfl 27 rfl _ (devZ _) ?_)
            | (refine wpList_store_bign (cs := devC (recvD d x) ta5 tc5 qa5 qc5 da5 dc5 la5 lc5) bigDev rfl _ _ rfl _ rfl rfl rfl rfl rfl (dev1 _ _ _ _ _ _ _ _ _) ?_)
            | (refine wpList_load_bigG bigDev (by rfl) _ rfl BA 0 (devC (recvD d x) ta4 tc4 qa4 qc4 da4 dc4 la4 lc4) rfl (range_blk HA.out) rfl ?_)
            | (refine wpList_load_bigG bigDev (by rfl) _ rfl w5.heap.size 0 (devC (recvD d x) ta5 tc5 qa5 qc5 da5 dc5 la5 lc5) rfl (range_blk HB5.out) rfl ?_))
      generalize w5.heap.size = BB at *
      generalize w5.alloc (.cells (devC (recvD d x) ta5 tc5 qa5 qc5 da5 dc5 la5 lc5) 27) = uB at *
      clear y3
      have hbA : DevB uB (recvD d x) := DevB.recv HB.out OX.out RDD.out
      refine (dsame_ok _ _ (recvD d x) NoM NoM uB ⟨_, _, _, _, _, _, _, _, rfl, RrA.out⟩ ⟨_, _, _, _, _, _, _, _, rfl, RrB5.out⟩ hbA).mono ?_
      rintro e w6 ⟨rfl, kk⟩
      replace HD := Lib.hid (kk.blk HD.out (fun x => x))
      replace HX := Lib.hid (kk.blk HX.out (fun x => x))
      replace HA := Lib.hid (kk.blk HA.out (fun x => x))
      replace HB5 := Lib.hid (kk.blk HB5.out (fun x => x))
      replace RR := Lib.hid (RR.out.kept kk)
      replace HB := Lib.hid (HB.out.kept kk)
      replace OX := Lib.hid (OX.out.kept kk)
      replace RrA := Lib.hid (RrA.out.kept kk)
      replace RrB5 := Lib.hid (RrB5.out.kept kk)
      replace AA := Lib.hid (AA.out.kept kk.of_no (fun _ _ x => x))
      replace AB5 := Lib.hid (AB5.out.kept kk.of_no (fun _ _ x => x))
      replace KW := Lib.hid (KW.out.trans kk)
      clear kk
      clear hbA
      have HQ0 := Lib.hid (show (recvD d x).queue[0]? = some x by rw [QA.out]; rfl)
      have HRZ := Lib.hid (show rdyB (recvD d x).queue 0 = true from rdy_zero (by rw [QA.out]; simp))
      go_wp2_with (first
            | (refine wpList_load_big bigDev rfl _ rfl BB 0 (devC (recvD d x) ta5 tc5 qa5 qc5 da5 dc5 la5 lc5) rfl (range_blk HB5.out) rfl ?_))
      refine (do_ok _ (recvD d x) 0 x NoM w6 ⟨_, _, _, _, _, _, _, _, rfl, RrB5.out⟩ noM_lt RA.out FA.out HQ0.out HRZ.out).mono ?_
      rintro e w7 ⟨v7, av7, rfl, dd7, aa7, kk⟩
      obtain ⟨ta6, tc6, qa6, qc6, da6, dc6, la6, lc6, rfl, r7⟩ := dd7
      obtain ⟨aa6, ac6, ea7, _, _⟩ := aa7.shape
      have ea8 : av7 = .slice aa6 (doA (recvD d x) x).length ac6 := ea7
      subst ea8
      clear ea7
      replace HD := Lib.hid (kk.blk HD.out (fun x => x))
      replace HX := Lib.hid (kk.blk HX.out (fun x => x))
      replace HA := Lib.hid (kk.blk HA.out (fun x => x))
      replace HB5 := Lib.hid (kk.blk HB5.out (fun x => x))
      replace RR := Lib.hid (RR.out.kept kk)
      replace HB := Lib.hid (HB.out.kept kk)
      replace OX := Lib.hid (OX.out.kept kk)
      replace RrA := Lib.hid (RrA.out.kept kk)
      replace RrB5 := Lib.hid (RrB5.out.kept kk)
      replace AA := Lib.hid (AA.out.kept kk.of_no (fun _ _ x => x))
      replace AB5 := Lib.hid (AB5.out.kept kk.of_no (fun _ _ x => x))
      replace KW := Lib.hid (KW.out.trans kk)
      clear kk
      have kk := (Kept.refl NoM w7).alloc (.cells (devC (doW (recvD d x) 0 x) ta6 tc6 qa6 qc6 da6 dc6 la6 lc6) 27)
      replace HD := Lib.hid (kk.blk HD.out (fun x => x))
      replace HX := Lib.hid (kk.blk HX.out (fun x => x))
      replace HA := Lib.hid (kk.blk HA.out (fun x => x))
      replace HB5 := Lib.hid (kk.blk HB5.out (fun x => x))
      replace RR := Lib.hid (RR.out.kept kk)
      replace HB := Lib.hid (HB.out.kept kk)
      replace OX := Lib.hid (OX.out.kept kk)
      replace RrA := Lib.hid (RrA.out.kept kk)
      replace RrB5 := Lib.hid (RrB5.out.kept kk)
      replace AA := Lib.hid (AA.out.kept kk.of_no (fun _ _ x => x))
      replace AB5 := Lib.hid (AB5.out.kept kk.of_no (fun _ _ x => x))
      replace KW := Lib.hid (KW.out.trans kk)
      have HC := Lib.hid (blk_new w7 (.cells (devC (doW (recvD d x) 0 x) ta6 tc6 qa6 qc6 da6 dc6 la6 lc6) 27))
      have RrC := Lib.hid (r7.kept kk)
      have AC := Lib.hid (aa7.kept kk.of_no (M := NoM) (fun _ _ x => x))
      clear kk r7 aa7
      obtain ⟨r1, r2, r3, _⟩ := rep_again HLT.out rfl HDN.out
      obtain ⟨p1, p2, p3⟩ := rep_boot RDD.out.tab.dec HLT.out rfl HDN.out
      have AG1 := Lib.hid r1
      have AG2 := Lib.hid r2
      have AG3 := Lib.hid r3
      have BT1 := Lib.hid p1
      have BT2 := Lib.hid p2
      have BT3 := Lib.hid p3
      clear r1 r2 r3 p1 p2 p3
      have RDC := Lib.hid (RA.out.doW HQ0.out)
      have FWC : Hid (Few (doW (recvD d x) 0 x)) := Lib.hid (Few.doW2 FA.out 0 x (by rw [recv_new HLT.out]; have := HFEW.out; show d.table.length ≤ 900; omega) (by rw [recv_new HLT.out]; simp))
      have RDRB := Lib.hid (RDC.out.reb true)
      have FWRB : Hid (Few (rebD (doW (recvD d x) 0 x) true)) := Lib.hid ⟨FWC.out.t, Nat.zero_le _, FWC.out.l⟩
      have NZR := Lib.hid RDRB.out.nz
      have RDY := Lib.hid (RDRB.out.recv FX.out)
      have NZY := Lib.hid RDY.out.nz
      have FWY := Lib.hid (FWRB.out.recv x)
      have y4 : ∀ wz, wz = w7.alloc (.cells (devC (doW (recvD d x) 0 x) ta6 tc6 qa6 qc6 da6 dc6 la6 lc6) 27) → wz.cell? ⟨w7.heap.size, 4, none⟩ = some (.slice da6 1 dc6) := by rintro wz rfl; have hy := cell_blk HC.out 4 _ dv4; rw [AG1.out] at hy; exact hy
      have y4 := y4 _ rfl
      go_wp2_with (first
            | (refine wpList_alloc_Z rfl 27 rfl _ (devZ _) ?_)
            | (refine wpList_store_bign (cs := devC (doW (recvD d x) 0 x) ta6 tc6 qa6 qc6 da6 dc6 la6 lc6) bigDev rfl _ _ rfl _ rfl rfl rfl rfl rfl (dev1 _ _ _ _ _ _ _ _ _) ?_)
            | (refine wpList_load_big bigDev rfl _ rfl w7.heap.size 0 (devC (doW (recvD d x) 0 x) ta6 tc6 qa6 qc6 da6 dc6 la6 lc6) rfl (range_blk HC.out) rfl ?_)
            | (refine wpList_load_big bigWr rfl _ rfl (w.heap.size + 1) 0 (wrC x) rfl (range_blk HX.out) rfl ?_))
      generalize w7.heap.size = BC at *
      generalize w7.alloc (.cells (devC (doW (recvD d x) 0 x) ta6 tc6 qa6 qc6 da6 dc6 la6 lc6) 27) = uC at *
      have hcall := recv_ok _ (doW (recvD d x) 0 x) x NoM uC ⟨_, _, _, _, _, _, _, _, rfl, RrC.out⟩ noM_lt RDC.out.ql FWC.out.dn (fun wx _ => by have := formed_ok x wx (by have := (formed_kind FX.out).1; omega) (by have := (formed_kind FX.out).1; omega); rw [FX.out] at this; exact this)
      rw [AG2.out, AG3.out] at hcall
      clear y4
      refine (hcall).mono ?_
      rintro e w8 ⟨v7, av7, rfl, dd7, aa7, kk⟩
      obtain ⟨ta7, tc7, qa7, qc7, da7, dc7, la7, lc7, rfl, r7⟩ := dd7
      obtain ⟨aa7, ac7, ea7, _, _⟩ := aa7.shape
      have ea8 : av7 = .slice aa7 1 ac7 := ea7
      subst ea8
      clear ea7
      replace HD := Lib.hid (kk.blk HD.out (fun x => x))
      replace HX := Lib.hid (kk.blk HX.out (fun x => x))
      replace HA := Lib.hid (kk.blk HA.out (fun x => x))
      replace HB5 := Lib.hid (kk.blk HB5.out (fun x => x))
      replace HC := Lib.hid (kk.blk HC.out (fun x => x))
      replace RR := Lib.hid (RR.out.kept kk)
      replace HB := Lib.hid (HB.out.kept kk)
      replace OX := Lib.hid (OX.out.kept kk)
      replace RrA := Lib.hid (RrA.out.kept kk)
      replace RrB5 := Lib.hid (RrB5.out.kept kk)
      replace RrC := Lib.hid (RrC.out.kept kk)
      replace AA := Lib.hid (AA.out.kept kk.of_no (fun _ _ x => x))
      replace AB5 := Lib.hid (AB5.out.kept kk.of_no (fun _ _ x => x))
      replace AC := Lib.hid (AC.out.kept kk.of_no (fun _ _ x => x))
      replace KW := Lib.hid (KW.out.trans kk)
      clear kk
      have kk := (Kept.refl NoM w8).alloc (.cells (devC (doW (recvD d x) 0 x) ta7 tc7 qa7 qc7 da7 dc7 la7 lc7) 27)
      replace HD := Lib.hid (kk.blk HD.out (fun x => x))
      replace HX := Lib.hid (kk.blk HX.out (fun x => x))
      replace HA := Lib.hid (kk.blk HA.out (fun x => x))
      replace HB5 := Lib.hid (kk.blk HB5.out (fun x => x))
      replace HC := Lib.hid (kk.blk HC.out (fun x => x))
      replace RR := Lib.hid (RR.out.kept kk)
      replace HB := Lib.hid (HB.out.kept kk)
      replace OX := Lib.hid (OX.out.kept kk)
      replace RrA := Lib.hid (RrA.out.kept kk)
      replace RrB5 := Lib.hid (RrB5.out.kept kk)
      replace RrC := Lib.hid (RrC.out.kept kk)
      replace AA := Lib.hid (AA.out.kept kk.of_no (fun _ _ x => x))
      replace AB5 := Lib.hid (AB5.out.kept kk.of_no (fun _ _ x => x))
      replace AC := Lib.hid (AC.out.kept kk.of_no (fun _ _ x => x))
      replace KW := Lib.hid (KW.out.trans kk)
      have HX7 := Lib.hid (blk_new w8 (.cells (devC (doW (recvD d x) 0 x) ta7 tc7 qa7 qc7 da7 dc7 la7 lc7) 27))
      have RrX7 := Lib.hid (r7.kept kk)
      have AX7 := Lib.hid (aa7.kept kk.of_no (M := NoM) (fun _ _ x => x))
      clear kk r7 aa7
      clear hcall
      go_wp2_with (first
            | (refine wpList_alloc_Z rfl 27 rfl _ (devZ _) ?_)
            | (refine wpList_store_bign (cs := devC (doW (recvD d x) 0 x) ta7 tc7 qa7 qc7 da7 dc7 la7 lc7) bigDev rfl _ _ rfl _ rfl rfl rfl rfl rfl (dev1 _ _ _ _ _ _ _ _ _) ?_)
            | (refine wpList_load_bigG bigDev (by rfl) _ rfl w8.heap.size 0 (devC (doW (recvD d x) 0 x) ta7 tc7 qa7 qc7 da7 dc7 la7 lc7) rfl (range_blk HX7.out) rfl ?_)
            | (refine wpList_load_bigG bigDev (by rfl) _ rfl BC 0 (devC (doW (recvD d x) 0 x) ta6 tc6 qa6 qc6 da6 dc6 la6 lc6) rfl (range_blk HC.out) rfl ?_))
      generalize w8.heap.size = BX at *
      generalize w8.alloc (.cells (devC (doW (recvD d x) 0 x) ta7 tc7 qa7 qc7 da7 dc7 la7 lc7) 27) = uX at *
      have hbC : DevB uX (doW (recvD d x) 0 x) := DevB.doW (DevB.recv HB.out OX.out RDD.out) FA.out HQ0.out
      refine (dsame_ok _ _ (doW (recvD d x) 0 x) NoM NoM uX ⟨_, _, _, _, _, _, _, _, rfl, RrX7.out⟩ ⟨_, _, _, _, _, _, _, _, rfl, RrC.out⟩ hbC).mono ?_
      rintro e w9 ⟨rfl, kk⟩
      replace HD := Lib.hid (kk.blk HD.out (fun x => x))
      replace HX := Lib.hid (kk.blk HX.out (fun x => x))
      replace HA := Lib.hid (kk.blk HA.out (fun x => x))
      replace HB5 := Lib.hid (kk.blk HB5.out (fun x => x))
      replace HC := Lib.hid (kk.blk HC.out (fun x => x))
      replace HX7 := Lib.hid (kk.blk HX7.out (fun x => x))
      replace RR := Lib.hid (RR.out.kept kk)
      replace HB := Lib.hid (HB.out.kept kk)
      replace OX := Lib.hid (OX.out.kept kk)
      replace RrA := Lib.hid (RrA.out.kept kk)
      replace RrB5 := Lib.hid (RrB5.out.kept kk)
      replace RrC := Lib.hid (RrC.out.kept kk)
      replace RrX7 := Lib.hid (RrX7.out.kept kk)
      replace AA := Lib.hid (AA.out.kept kk.of_no (fun _ _ x => x))
      replace AB5 := Lib.hid (AB5.out.kept kk.of_no (fun _ _ x => x))
      replace AC := Lib.hid (AC.out.kept kk.of_no (fun _ _ x => x))
      replace AX7 := Lib.hid (AX7.out.kept kk.of_no (fun _ _ x => x))
      replace KW := Lib.hid (KW.out.trans kk)
      clear kk
      replace hbC : DevB w9 (doW (recvD d x) 0 x) := DevB.doW (DevB.recv HB.out OX.out RDD.out) FA.out HQ0.out
      have HBC := Lib.hid hbC
      clear hbC
      obtain ⟨lb, lo, hle, hlc⟩ := ak_at AX7.out (k := 0) rfl
      subst hle
      have ya := hlc
      go_wp2_with fail
      clear ya hlc
      refine wp_region_see 11 [(9, 18)] [] [(8, 9)] [] [] [] (fun wx => Kept NoM w9 wx)
            [fun v _ => v = .agg (devC (doW (recvD d x) 0 x) ta6 tc6 qa6 qc6 da6 dc6 la6 lc6), fun v wx => ∃ _ : Unit, DevV wx NoM v (rebD (doW (recvD d x) 0 x) true), fun v _ => v = .agg (wrC x), fun v wx => ∃ tv tav, v = .tuple #[tv, tav, .int .i64 0] ∧ DevV wx NoM tv (recvD (rebD (doW (recvD d x) 0 x) true) x) ∧ RdS wx NoM 3 EAk tav (recvA (rebD (doW (recvD d x) 0 x) true) x), fun v wx => ∃ tv tav, v = .tuple #[tv, tav, .int .i64 0] ∧ DevV wx NoM tv (recvD (rebD (doW (recvD d x) 0 x) true) x) ∧ RdS wx NoM 3 EAk tav (recvA (rebD (doW (recvD d x) 0 x) true) x), fun v wx => ∃ _ : Unit, DevV wx NoM v (recvD (rebD (doW (recvD d x) 0 x) true) x), fun v wx => ∃ _ : Unit, RdS wx NoM 3 EAk v (recvA (rebD (doW (recvD d x) 0 x) true) x), fun v _ => v = .int .i64 0, fun v wx => ∃ b, (v = .pointer (some ⟨b, 0, none⟩) ∧ w9.heap.size ≤ b) ∧ wx.heap[b]? = some (.cells devZC 27 (0, 0)), fun v wx => ∃ (b : Nat) (c : Array Value), v = .pointer (some ⟨b, 0, none⟩) ∧ w9.heap.size ≤ b ∧ c.size = 7 ∧ wx.heap[b]? = some (.cells c 27 (0, 0)) ∧ DevV wx NoM (.agg c) (recvD (rebD (doW (recvD d x) 0 x) true) x), fun v wx => ∃ _ : Unit, RdS wx NoM 3 EAk v (recvA (rebD (doW (recvD d x) 0 x) true) x)] (by kernel_rfl) (by kernel_rfl) (by kernel_rfl) (by kernel_rfl) (Kept.refl NoM w9).drew (inits_nil) ?_ ?_
      · intro i hi9
        have hst := stab_all (posts := [fun v _ => v = .agg (devC (doW (recvD d x) 0 x) ta6 tc6 qa6 qc6 da6 dc6 la6 lc6), fun v wx => ∃ _ : Unit, DevV wx NoM v (rebD (doW (recvD d x) 0 x) true), fun v _ => v = .agg (wrC x), fun v wx => ∃ tv tav, v = .tuple #[tv, tav, .int .i64 0] ∧ DevV wx NoM tv (recvD (rebD (doW (recvD d x) 0 x) true) x) ∧ RdS wx NoM 3 EAk tav (recvA (rebD (doW (recvD d x) 0 x) true) x), fun v wx => ∃ tv tav, v = .tuple #[tv, tav, .int .i64 0] ∧ DevV wx NoM tv (recvD (rebD (doW (recvD d x) 0 x) true) x) ∧ RdS wx NoM 3 EAk tav (recvA (rebD (doW (recvD d x) 0 x) true) x), fun v wx => ∃ _ : Unit, DevV wx NoM v (recvD (rebD (doW (recvD d x) 0 x) true) x), fun v wx => ∃ _ : Unit, RdS wx NoM 3 EAk v (recvA (rebD (doW (recvD d x) 0 x) true) x), fun v _ => v = .int .i64 0, fun v wx => ∃ b, (v = .pointer (some ⟨b, 0, none⟩) ∧ w9.heap.size ≤ b) ∧ wx.heap[b]? = some (.cells devZC 27 (0, 0)), fun v wx => ∃ (b : Nat) (c : Array Value), v = .pointer (some ⟨b, 0, none⟩) ∧ w9.heap.size ≤ b ∧ c.size = 7 ∧ wx.heap[b]? = some (.cells c 27 (0, 0)) ∧ DevV wx NoM (.agg c) (recvD (rebD (doW (recvD d x) 0 x) true) x), fun v wx => ∃ _ : Unit, RdS wx NoM 3 EAk v (recvA (rebD (doW (recvD d x) 0 x) true) x)])        (stab_cons (stab_const _) (stab_cons (fun _ _ _ k ⟨u, h⟩ => ⟨u, h.kept0 k⟩) (stab_cons (stab_const _) (stab_cons (stab_tup _ _ _) (stab_cons (stab_tup _ _ _) (stab_cons (fun _ _ _ k ⟨u, h⟩ => ⟨u, h.kept0 k⟩) (stab_cons (fun _ _ _ k ⟨u, h⟩ => ⟨u, h.kept k.of_no (fun _ _ x => x)⟩) (stab_cons (stab_const _) (stab_cons (stab_blk (fun b v => v = .pointer (some ⟨b, 0, none⟩) ∧ w9.heap.size ≤ b) (fun b => b) (fun b => .cells devZC 27 (0, 0))) (stab_cons (fun _ _ _ k ⟨b, c, h1, h2, h3, h4, h5⟩ => ⟨b, c, h1, h2, h3, k.blk h4 (fun x => x), h5.kept0 k⟩) (stab_cons (fun _ _ _ k ⟨u, h⟩ => ⟨u, h.kept k.of_no (fun _ _ x => x)⟩) stab_nil)))))))))))
        have hist := init_stab (inits := []) (fun p h => by cases h)
        have HST := Lib.hid hst
        have HIST := Lib.hid hist
        clear hst hist
        rcases (show i = 0 ∨ i = 1 ∨ i = 2 ∨ i = 3 ∨ i = 4 ∨ i = 5 ∨ i = 6 ∨ i = 7 ∨ i = 8 ∨ i = 9 ∨ i = 10 by omega) with rfl | rfl | rfl | rfl | rfl | rfl | rfl | rfl | rfl | rfl | rfl
        · refine asksS_intro ?_; intro o ho a wx hc hout hp hi R hR; cases ho
          have e12 : a.tmps[12]? = some (.pointer (some ⟨BC, 0, none⟩)) := hout 12 rfl
          refine gives_load_big bigDev (.tmp 12) rfl BC 0 (devC (doW (recvD d x) 0 x) ta6 tc6 qa6 qc6 da6 dc6 la6 lc6) (by go_simp) (range_blk (hc.blk HC.out (fun x => x))) rfl ?_
          exact hR _ _ hc rfl (fun _ _ _ _ _ u h => h) (fun _ _ h => h)
        · refine asksS_intro ?_; intro o ho a wx hc hout hp hi R hR; cases ho
          have e121 : a.tmps[121]?.getD undef = .agg (devC (doW (recvD d x) 0 x) ta6 tc6 qa6 qc6 da6 dc6 la6 lc6) := hp 0 (by omega) rfl
          go_simp
          refine (reb_ok (doW (recvD d x) 0 x) _ _ _ _ _ _ _ _ NoM true wx (RrC.out.kept hc)).mono ?_
          rintro e w2 ⟨v, rfl, q1, q3⟩
          exact ⟨_, rfl, hR _ _ (hc.trans q3) ⟨(), q1⟩ (fun j _ _ _ _ u h => HST.out j u _ _ q3 h) (fun j _ h => HIST.out j _ _ q3 h)⟩
        · refine asksS_intro ?_; intro o ho a wx hc hout hp hi R hR; cases ho
          have e3 : a.tmps[3]? = some (.pointer (some ⟨w.heap.size + 1, 0, none⟩)) := hout 3 rfl
          refine gives_load_big bigWr (.tmp 3) rfl (w.heap.size + 1) 0 (wrC x) (by go_simp) (range_blk (hc.blk HX.out (fun x => x))) rfl ?_
          exact hR _ _ hc rfl (fun _ _ _ _ _ u h => h) (fun _ _ h => h)
        · refine asksS_intro ?_; intro o ho a wx hc hout hp hi R hR; cases ho
          obtain ⟨_, q122⟩ : ∃ _ : Unit, DevV wx NoM (a.tmps[122]?.getD undef) (rebD (doW (recvD d x) 0 x) true) := hp 1 (by omega) rfl
          have e123 : a.tmps[123]?.getD undef = .agg (wrC x) := hp 2 (by omega) rfl
          go_simp
          refine (recv_ok _ (rebD (doW (recvD d x) 0 x) true) x NoM wx q122 noM_lt RDRB.out.ql FWRB.out.dn (fun wx _ => by have := formed_ok x wx (by have := (formed_kind FX.out).1; omega) (by have := (formed_kind FX.out).1; omega); rw [FX.out] at this; exact this)).mono ?_
          rintro e w2 ⟨v, av, rfl, q1, q2, q3⟩
          exact ⟨_, rfl, hR _ _ (hc.trans q3) ⟨v, av, rfl, q1, q2⟩ (fun j _ _ _ _ u h => HST.out j u _ _ q3 h) (fun j _ h => HIST.out j _ _ q3 h)⟩
        · refine asksS_intro ?_; intro o ho a wx hc hout hp hi R hR; cases ho
          obtain ⟨tv, tav, e124, tv2, tv3⟩ : ∃ tv tav, (a.tmps[124]?.getD undef) = .tuple #[tv, tav, .int .i64 0] ∧ DevV wx NoM tv (recvD (rebD (doW (recvD d x) 0 x) true) x) ∧ RdS wx NoM 3 EAk tav (recvA (rebD (doW (recvD d x) 0 x) true) x) := hp 3 (by omega) rfl
          go_simp
          exact hR _ _ hc ⟨tv, tav, rfl, tv2, tv3⟩ (fun _ _ _ _ _ u h => h) (fun _ _ h => h)
        · refine asksS_intro ?_; intro o ho a wx hc hout hp hi R hR; cases ho
          obtain ⟨tv, tav, e120, tv2, tv3⟩ : ∃ tv tav, (a.tmps[120]?.getD undef) = .tuple #[tv, tav, .int .i64 0] ∧ DevV wx NoM tv (recvD (rebD (doW (recvD d x) 0 x) true) x) ∧ RdS wx NoM 3 EAk tav (recvA (rebD (doW (recvD d x) 0 x) true) x) := hp 4 (by omega) rfl
          go_simp
          exact hR _ _ hc ⟨(), tv2⟩ (fun _ _ _ _ _ u h => h) (fun _ _ h => h)
        · refine asksS_intro ?_; intro o ho a wx hc hout hp hi R hR; cases ho
          obtain ⟨tv, tav, e120, tv2, tv3⟩ : ∃ tv tav, (a.tmps[120]?.getD undef) = .tuple #[tv, tav, .int .i64 0] ∧ DevV wx NoM tv (recvD (rebD (doW (recvD d x) 0 x) true) x) ∧ RdS wx NoM 3 EAk tav (recvA (rebD (doW (recvD d x) 0 x) true) x) := hp 4 (by omega) rfl
          go_simp
          exact hR _ _ hc ⟨(), tv3⟩ (fun _ _ _ _ _ u h => h) (fun _ _ h => h)
        · refine asksS_intro ?_; intro o ho a wx hc hout hp hi R hR; cases ho
          obtain ⟨tv, tav, e120, tv2, tv3⟩ : ∃ tv tav, (a.tmps[120]?.getD undef) = .tuple #[tv, tav, .int .i64 0] ∧ DevV wx NoM tv (recvD (rebD (doW (recvD d x) 0 x) true) x) ∧ RdS wx NoM 3 EAk tav (recvA (rebD (doW (recvD d x) 0 x) true) x) := hp 4 (by omega) rfl
          go_simp
          exact hR _ _ hc rfl (fun _ _ _ _ _ u h => h) (fun _ _ h => h)
        · refine asksS_intro ?_; intro o ho a wx hc hout hp hi R hR; cases ho
          refine gives_alloc_Z 27 rfl _ (devZ _) ?_
          exact hR _ _ (hc.alloc _) ⟨_, ⟨rfl, hc.size⟩, blk_new _ _⟩ (fun j _ _ _ _ u h => HST.out j u _ _ ((Kept.refl _ _).alloc _) h) (fun j _ h => HIST.out j _ _ ((Kept.refl _ _).alloc _) h)
        · refine asksS_intro ?_; intro o ho a wx hc hout hp hi R hR; cases ho
          obtain ⟨_, q125⟩ : ∃ _ : Unit, DevV wx NoM (a.tmps[125]?.getD undef) (recvD (rebD (doW (recvD d x) 0 x) true) x) := hp 5 (by omega) rfl
          obtain ⟨b, e18, hb18⟩ : ∃ b, (a.tmps[18]?.getD undef = .pointer (some ⟨b, 0, none⟩) ∧ w9.heap.size ≤ b) ∧ wx.heap[b]? = some (.cells devZC 27 (0, 0)) := hp 8 (by omega) rfl
          obtain ⟨e18, hs8⟩ := e18
          obtain ⟨sta, stc, sqa, sqc, sda, sdc, sla, slc, e125, qr⟩ := q125
          refine gives_store_bigb (cs := devC (recvD (rebD (doW (recvD d x) 0 x) true) x) sta stc sqa sqc sda sdc sla slc) bigDev (.tmp 18) (.tmp 125) rfl b (by go_simp) (by go_simp) hb18 rfl rfl (dev1 _ _ _ _ _ _ _ _ _) ?_
          refine hR _ _ (hc.putN hs8 _ _) ⟨b, _, e18, hs8, rfl, putB_blk _ _ _ _ (lt_of_block hb18), ⟨_, _, _, _, _, _, _, _, rfl, qr.putZ NZY.out hb18 _⟩⟩ (fun j hj hne hcn hwf u h => ?_) (fun q hq h => ?_)
          · rcases (show j = 0 ∨ j = 1 ∨ j = 2 ∨ j = 3 ∨ j = 4 ∨ j = 5 ∨ j = 6 ∨ j = 7 ∨ j = 8 ∨ j = 9 ∨ j = 10 by omega) with rfl | rfl | rfl | rfl | rfl | rfl | rfl | rfl | rfl | rfl | rfl <;> first | exact h | exact absurd hcn (by decide) | exact absurd rfl hne | (obtain ⟨v0, av0, h1, h2, h3⟩ := h; exact ⟨v0, av0, h1, h2.putZ NZY.out hb18 _, acks_putZ h3 hb18 _⟩) | (obtain ⟨u0, h2⟩ := h; exact ⟨u0, h2.putZ NZR.out hb18 _⟩) | (obtain ⟨u0, h2⟩ := h; exact ⟨u0, h2.putZ NZY.out hb18 _⟩) | (obtain ⟨u0, h2⟩ := h; exact ⟨u0, acks_putZ h2 hb18 _⟩) | exact absurd (hwf.symm.trans (by kernel_rfl)) Bool.false_ne_true
          · trivial
        · refine asksS_intro ?_; intro o ho a wx hc hout hp hi R hR; cases ho
          obtain ⟨_, q126⟩ : ∃ _ : Unit, RdS wx NoM 3 EAk (a.tmps[126]?.getD undef) (recvA (rebD (doW (recvD d x) 0 x) true) x) := hp 6 (by omega) rfl
          go_simp
          exact hR _ _ hc ⟨(), q126⟩ (fun _ _ _ _ _ u h => h) (fun _ _ h => h)
      · intro vs w' hc hp
        have e127 : vs 7 = .int .i64 0 := hp 7 (by omega) rfl
        obtain ⟨b, c, e8, hb8, hc8, hbb8, q8⟩ : ∃ (b : Nat) (c : Array Value), (vs 8) = .pointer (some ⟨b, 0, none⟩) ∧ w9.heap.size ≤ b ∧ c.size = 7 ∧ w'.heap[b]? = some (.cells c 27 (0, 0)) ∧ DevV w' NoM (.agg c) (recvD (rebD (doW (recvD d x) 0 x) true) x) := hp 9 (by omega) rfl 8 (by omega) rfl
        simp only [List.take_succ_cons, List.take_zero, List.drop_succ_cons, List.drop_zero, putAll, Act.put, List.setIfInBounds_toArray, List.set_cons_zero, List.set_cons_succ, Nat.reduceAdd, e127]
        rw [e8]
        obtain ⟨ta8, tc8, qa8, qc8, da8, dc8, la8, lc8, en, qn⟩ := q8
        obtain rfl := Value.agg.inj en
        change wpList _ _ _ _ _ _
        have kk := hc
        have HY8 := Lib.hid hbb8
        have RrY := Lib.hid qn
        clear hc hp hbb8 hb8 qn en hc8 e8
        generalize w' = uY at *
        generalize b = BY at *
        replace HD := Lib.hid (kk.blk HD.out (fun x => x))
        replace HX := Lib.hid (kk.blk HX.out (fun x => x))
        replace HA := Lib.hid (kk.blk HA.out (fun x => x))
        replace HB5 := Lib.hid (kk.blk HB5.out (fun x => x))
        replace HC := Lib.hid (kk.blk HC.out (fun x => x))
        replace HX7 := Lib.hid (kk.blk HX7.out (fun x => x))
        replace RR := Lib.hid (RR.out.kept kk)
        replace HB := Lib.hid (HB.out.kept kk)
        replace OX := Lib.hid (OX.out.kept kk)
        replace RrA := Lib.hid (RrA.out.kept kk)
        replace RrB5 := Lib.hid (RrB5.out.kept kk)
        replace RrC := Lib.hid (RrC.out.kept kk)
        replace RrX7 := Lib.hid (RrX7.out.kept kk)
        replace HBC := Lib.hid (HBC.out.kept kk)
        replace AA := Lib.hid (AA.out.kept kk.of_no (fun _ _ x => x))
        replace AB5 := Lib.hid (AB5.out.kept kk.of_no (fun _ _ x => x))
        replace AC := Lib.hid (AC.out.kept kk.of_no (fun _ _ x => x))
        replace AX7 := Lib.hid (AX7.out.kept kk.of_no (fun _ _ x => x))
        replace KW := Lib.hid (KW.out.trans kk)
        clear kk
        have HQY := Lib.hid (show (recvD (rebD (doW (recvD d x) 0 x) true) x).queue[0]? = some x by rw [BT1.out]; rfl)
        have HRY := Lib.hid (show rdyB (recvD (rebD (doW (recvD d x) 0 x) true) x).queue 0 = true from rdy_zero (by rw [BT1.out]; simp))
        go_wp2_with (first       | (refine wpList_load_big bigDev rfl _ rfl BY 0 (devC (recvD (rebD (doW (recvD d x) 0 x) true) x) ta8 tc8 qa8 qc8 da8 dc8 la8 lc8) rfl (range_blk HY8.out) rfl ?_))
        refine (do_ok _ (recvD (rebD (doW (recvD d x) 0 x) true) x) 0 x NoM uY ⟨_, _, _, _, _, _, _, _, rfl, RrY.out⟩ noM_lt RDY.out FWY.out HQY.out HRY.out).mono ?_
        rintro e w10 ⟨v7, av7, rfl, dd7, aa7, kk⟩
        obtain ⟨ta9, tc9, qa9, qc9, da9, dc9, la9, lc9, rfl, r7⟩ := dd7
        obtain ⟨aa9, ac9, ea7, _, _⟩ := aa7.shape
        have ea8 : av7 = .slice aa9 (doA (recvD (rebD (doW (recvD d x) 0 x) true) x) x).length ac9 := ea7
        subst ea8
        clear ea7
        replace HD := Lib.hid (kk.blk HD.out (fun x => x))
        replace HX := Lib.hid (kk.blk HX.out (fun x => x))
        replace HA := Lib.hid (kk.blk HA.out (fun x => x))
        replace HB5 := Lib.hid (kk.blk HB5.out (fun x => x))
        replace HC := Lib.hid (kk.blk HC.out (fun x => x))
        replace HX7 := Lib.hid (kk.blk HX7.out (fun x => x))
        replace HY8 := Lib.hid (kk.blk HY8.out (fun x => x))
        replace RR := Lib.hid (RR.out.kept kk)
        replace HB := Lib.hid (HB.out.kept kk)
        replace OX := Lib.hid (OX.out.kept kk)
        replace RrA := Lib.hid (RrA.out.kept kk)
        replace RrB5 := Lib.hid (RrB5.out.kept kk)
        replace RrC := Lib.hid (RrC.out.kept kk)
        replace RrX7 := Lib.hid (RrX7.out.kept kk)
        replace HBC := Lib.hid (HBC.out.kept kk)
        replace RrY := Lib.hid (RrY.out.kept kk)
        replace AA := Lib.hid (AA.out.kept kk.of_no (fun _ _ x => x))
        replace AB5 := Lib.hid (AB5.out.kept kk.of_no (fun _ _ x => x))
        replace AC := Lib.hid (AC.out.kept kk.of_no (fun _ _ x => x))
        replace AX7 := Lib.hid (AX7.out.kept kk.of_no (fun _ _ x => x))
        replace KW := Lib.hid (KW.out.trans kk)
        clear kk
        have kk := (Kept.refl NoM w10).alloc (.cells (devC (doW (recvD (rebD (doW (recvD d x) 0 x) true) x) 0 x) ta9 tc9 qa9 qc9 da9 dc9 la9 lc9) 27)
        replace HD := Lib.hid (kk.blk HD.out (fun x => x))
        replace HX := Lib.hid (kk.blk HX.out (fun x => x))
        replace HA := Lib.hid (kk.blk HA.out (fun x => x))
        replace HB5 := Lib.hid (kk.blk HB5.out (fun x => x))
        replace HC := Lib.hid (kk.blk HC.out (fun x => x))
        replace HX7 := Lib.hid (kk.blk HX7.out (fun x => x))
        replace HY8 := Lib.hid (kk.blk HY8.out (fun x => x))
        replace RR := Lib.hid (RR.out.kept kk)
        replace HB := Lib.hid (HB.out.kept kk)
        replace OX := Lib.hid (OX.out.kept kk)
        replace RrA := Lib.hid (RrA.out.kept kk)
        replace RrB5 := Lib.hid (RrB5.out.kept kk)
        replace RrC := Lib.hid (RrC.out.kept kk)
        replace RrX7 := Lib.hid (RrX7.out.kept kk)
        replace HBC := Lib.hid (HBC.out.kept kk)
        replace RrY := Lib.hid (RrY.out.kept kk)
        replace AA := Lib.hid (AA.out.kept kk.of_no (fun _ _ x => x))
        replace AB5 := Lib.hid (AB5.out.kept kk.of_no (fun _ _ x => x))
        replace AC := Lib.hid (AC.out.kept kk.of_no (fun _ _ x => x))
        replace AX7 := Lib.hid (AX7.out.kept kk.of_no (fun _ _ x => x))
        replace KW := Lib.hid (KW.out.trans kk)
        have HZ := Lib.hid (blk_new w10 (.cells (devC (doW (recvD (rebD (doW (recvD d x) 0 x) true) x) 0 x) ta9 tc9 qa9 qc9 da9 dc9 la9 lc9) 27))
        have RrZ := Lib.hid (r7.kept kk)
        have AZ := Lib.hid (aa7.kept kk.of_no (M := NoM) (fun _ _ x => x))
        clear kk r7 aa7
        have z2 : ∀ wz, wz = w10.alloc (.cells (devC (doW (recvD (rebD (doW (recvD d x) 0 x) true) x) 0 x) ta9 tc9 qa9 qc9 da9 dc9 la9 lc9) 27) → wz.cell? ⟨w10.heap.size, 2, none⟩ = some (.slice ta9 (doW (recvD d x) 0 x).table.length tc9) := by rintro wz rfl; have hy := cell_blk HZ.out 2 _ dv2; rw [BT2.out] at hy; exact hy
        have z4 : ∀ wz, wz = w10.alloc (.cells (devC (doW (recvD (rebD (doW (recvD d x) 0 x) true) x) 0 x) ta9 tc9 qa9 qc9 da9 dc9 la9 lc9) 27) → wz.cell? ⟨w10.heap.size, 4, none⟩ = some (.slice da9 (doW (recvD d x) 0 x).done.length dc9) := by rintro wz rfl; have hy := cell_blk HZ.out 4 _ dv4; rw [BT3.out] at hy; exact hy
        have z2 := z2 _ rfl
        have z4 := z4 _ rfl
        have c2 := cell_blk HC.out 2 _ dv2
        have c4 := cell_blk HC.out 4 _ dv4
        go_wp2_with (first       | (refine wpList_alloc_Z rfl 27 rfl _ (devZ _) ?_)       | (refine wpList_store_bign (cs := devC (doW (recvD (rebD (doW (recvD d x) 0 x) true) x) 0 x) ta9 tc9 qa9 qc9 da9 dc9 la9 lc9) bigDev rfl _ _ rfl _ rfl rfl rfl rfl rfl (dev1 _ _ _ _ _ _ _ _ _) ?_))
        generalize w10.heap.size = BZ at *
        generalize w10.alloc (.cells (devC (doW (recvD (rebD (doW (recvD d x) 0 x) true) x) 0 x) ta9 tc9 qa9 qc9 da9 dc9 la9 lc9) 27) = uZ at *
        have rz1 := RrZ.out.rt
        have rz2 := RrZ.out.rd
        rw [BT2.out] at rz1
        rw [BT3.out] at rz2
        have RZ1 := Lib.hid rz1
        have RZ2 := Lib.hid rz2
        clear rz1 rz2 z2 c2
        refine (rtsame_ok _ _ (doW (recvD d x) 0 x).table NoM NoM uZ RZ1.out RrC.out.rt (by have := FWC.out.t; omega) HBC.out.t).mono ?_
        rintro e w11 ⟨rfl, kk⟩
        replace HD := Lib.hid (kk.blk HD.out (fun x => x))
        replace HX := Lib.hid (kk.blk HX.out (fun x => x))
        replace HA := Lib.hid (kk.blk HA.out (fun x => x))
        replace HB5 := Lib.hid (kk.blk HB5.out (fun x => x))
        replace HC := Lib.hid (kk.blk HC.out (fun x => x))
        replace HX7 := Lib.hid (kk.blk HX7.out (fun x => x))
        replace HY8 := Lib.hid (kk.blk HY8.out (fun x => x))
        replace HZ := Lib.hid (kk.blk HZ.out (fun x => x))
        replace RR := Lib.hid (RR.out.kept kk)
        replace HB := Lib.hid (HB.out.kept kk)
        replace OX := Lib.hid (OX.out.kept kk)
        replace RrA := Lib.hid (RrA.out.kept kk)
        replace RrB5 := Lib.hid (RrB5.out.kept kk)
        replace RrC := Lib.hid (RrC.out.kept kk)
        replace RrX7 := Lib.hid (RrX7.out.kept kk)
        replace HBC := Lib.hid (HBC.out.kept kk)
        replace RrY := Lib.hid (RrY.out.kept kk)
        replace RrZ := Lib.hid (RrZ.out.kept kk)
        replace AA := Lib.hid (AA.out.kept kk.of_no (fun _ _ x => x))
        replace AB5 := Lib.hid (AB5.out.kept kk.of_no (fun _ _ x => x))
        replace AC := Lib.hid (AC.out.kept kk.of_no (fun _ _ x => x))
        replace AX7 := Lib.hid (AX7.out.kept kk.of_no (fun _ _ x => x))
        replace AZ := Lib.hid (AZ.out.kept kk.of_no (fun _ _ x => x))
        replace RZ1 := Lib.hid (RZ1.out.kept kk.of_no (fun _ _ x => x))
        replace RZ2 := Lib.hid (RZ2.out.kept kk.of_no (fun _ _ x => x))
        replace KW := Lib.hid (KW.out.trans kk)
        clear kk
        have z4 : w11.cell? ⟨BZ, 4, none⟩ = some (.slice da9 (doW (recvD d x) 0 x).done.length dc9) := by have hy := cell_blk HZ.out 4 _ dv4; rw [BT3.out] at hy; exact hy
        have c4 := cell_blk HC.out 4 _ dv4
        go_wp2_with fail
        refine (sameints_ok _ _ (doW (recvD d x) 0 x).done NoM NoM w11 RZ2.out RrC.out.rd (by have := FWC.out.dn; omega)).mono ?_
        rintro e w12 ⟨rfl, n9, rfl⟩
        go_wp2_with fail
        go_ret
        exact ⟨rfl, KW.out.drewN _⟩
theorem repeats_ok (d : Dev) (x : Wr) (ta qa da la : Option Addr) (tc qc dc lc : Nat) (w : World) (h : DevR w NoM d ta tc qa qc da dc la lc) (hot : ∀ r ∈ d.table, OutR w r) (hoq : ∀ y ∈ d.queue, OutR w y.rule) (ht : d.table.length ≤ 9223372036854775807) (hq : d.queue.length ≤ 9223372036854775807) (hox : OutR w x.rule) :
    Calls Try.prog 8 #[.agg (devC d ta tc qa qc da dc la lc), .agg (wrC x)] w fun e w' => e = .returned (.bool true) ∧ Kept NoM w w' := by
  by_cases h1 : x.ep ≤ d.ep
  · exact rep_1 d x ta qa da la tc qc dc lc w h hot hoq ht hq hox h1
  · by_cases h2 : (doW (recvD d x) 0 x).done.length = 0
    · exact rep_2 d x ta qa da la tc qc dc lc w h hot hoq ht hq hox (by omega) h2
    · exact rep_3 d x ta qa da la tc qc dc lc w h hot hoq ht hq hox (by omega) (by omega)
end Go.Proofs.Ytghgegghlefclaa
