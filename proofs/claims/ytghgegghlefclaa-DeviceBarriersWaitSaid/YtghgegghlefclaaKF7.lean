/- Walks: the law DeviceStaysRight. -/
import Derived.Test.YtghgegghlefclaaKW42
import Derived.Test.YtghgegghlefclaaKW20
set_option linter.unusedVariables false
set_option linter.unusedSimpArgs false
set_option linter.unusedSectionVars false
namespace Go.Proofs.Ytghgegghlefclaa
open Go.RowKit
set_option maxHeartbeats 4000000
set_option maxRecDepth 8000
theorem DevB.recv {w : World} {d : Dev} {x : Wr} (h : DevB w d) (hx : OutB w x.rule) (R : RD d) : DevB w (recvD d x) := by
  have hf : DevB w (fresh d x) := by
    unfold fresh
    split
    · exact ⟨h.t, fun y hy => by simp at hy, h.tl, Nat.zero_le _, Nat.zero_le _, Nat.zero_le _⟩
    · exact h
  have hq : (fresh d x).queue.length ≤ 64 := by
    unfold fresh
    split
    · exact Nat.zero_le _
    · exact R.ql
  unfold recvD
  split
  · exact h
  · split
    · exact hf
    · split
      · exact hf
      · split
        · exact hf
        · exact ⟨hf.t, fun y hy => by
            rcases List.mem_append.1 hy with hy | hy
            · exact hf.q y hy
            · rw [List.mem_singleton] at hy; subst hy; exact hx, hf.tl, by simp; omega, hf.dl, hf.ll⟩
theorem mem_insT_or {r x : Ru} {t : List Ru} (h : x ∈ insT r t) : x = r ∨ x ∈ t := by
  induction t with
  | nil => simp [insT] at h; exact .inl h
  | cons y t ih =>
    unfold insT at h
    split at h
    · rcases List.mem_cons.1 h with h | h
      · exact .inl h
      · exact .inr h
    · split at h
      · rcases List.mem_cons.1 h with h | h
        · exact .inl h
        · exact .inr (List.mem_cons_of_mem _ h)
      · rcases List.mem_cons.1 h with h | h
        · exact .inr (h ▸ List.mem_cons_self)
        · rcases ih h with h | h
          · exact .inl h
          · exact .inr (List.mem_cons_of_mem _ h)
theorem mem_putT_or {t : List Ru} {room : Int} {y : Wr} {r : Ru} (h : r ∈ putT t room y) : r = y.rule ∨ r ∈ t := by
  unfold putT at h
  split at h
  · unfold putU at h
    split at h
    · exact .inr h
    · split at h
      · exact .inr (mem_remT.1 h).1
      · exact mem_insT_or h
  · exact .inr h
theorem len_putT (t : List Ru) (room : Int) (y : Wr) : (putT t room y).length ≤ t.length + 1 := by
  unfold putT
  split
  · have := len_putU t y
    have h2 : (if y.kind = 3 then 0 else if y.kind = 2 then 0 else 1 : Nat) ≤ 1 := by split <;> (try split) <;> omega
    omega
  · omega
theorem DevB.doW' {w : World} {d : Dev} {kn : Nat} {y : Wr} (h : DevB w d) (hk : d.queue[kn]? = some y) (ht : d.table.length ≤ 9000) (hd : d.done.length ≤ 9000) : DevB w (doW d kn y) := by
  have hy := h.q y (List.mem_of_getElem? hk)
  refine ⟨fun r hr => ?_, fun z hz => h.q z (mem_erase hz), ?_, ?_, ?_, h.ll⟩
  · have hr' : r ∈ (if hasI d.lost y.seq = true then d.table else putT d.table d.room y) := hr
    split at hr'
    · exact h.t r hr'
    · rcases mem_putT_or hr' with e | hr'
      · rw [e]; exact hy
      · exact h.t r hr'
  · show (if hasI d.lost y.seq = true then d.table else putT d.table d.room y).length ≤ 10000
    split
    · omega
    · have := len_putT d.table d.room y; omega
  · have := List.length_eraseIdx_le d.queue kn
    have := h.ql
    show (d.queue.eraseIdx kn).length ≤ 10000
    omega
  · show (if isPut d y = true then insI y.seq d.done else d.done).length ≤ 10000
    split
    · rw [len_insI]; omega
    · omega
theorem DevB.doW {w : World} {d : Dev} {kn : Nat} {y : Wr} (h : DevB w d) (F : Few d) (hk : d.queue[kn]? = some y) : DevB w (Proofs.Ytghgegghlefclaa.doW d kn y) := h.doW' hk (by have := F.t; omega) (by have := F.dn; omega)
theorem DevB.reb {w : World} {d : Dev} (h : DevB w d) (keep : Bool) : DevB w (rebD d keep) := by
  refine ⟨fun r hr => ?_, fun y hy => by simp [rebD] at hy, ?_, Nat.zero_le _, Nat.zero_le _, h.ll⟩
  · cases keep
    · simp [rebD] at hr
    · exact h.t r hr
  · cases keep
    · exact Nat.zero_le _
    · exact h.tl
theorem ak_at {w : World} {M : Nat → Prop} {a : Option Addr} {n cap : Nat} {xs : List Ak} (h : RdS w M 3 EAk (.slice a n cap) xs) {k : Nat} {x : Ak} (hx : xs[k]? = some x) : ∃ b off, a = some ⟨b, off, none⟩ ∧ w.cell? ⟨b, off + k * 3 + 2, none⟩ = some (.int .i64 x.e) := by
  obtain ⟨a', cap', e1, _, _, h4⟩ := h
  simp only [Value.slice.injEq] at e1
  obtain ⟨rfl, _, rfl⟩ := e1
  rcases h4 with ⟨h5, _⟩ | ⟨b, off, h5, h6⟩
  · rw [h5] at hx; simp at hx
  · obtain ⟨_, cs, q1, _, q3⟩ := h6 k x hx
    exact ⟨b, off, h5, q3 2 (.int .i64 x.e) (by rw [q1]; rfl)⟩
theorem stays_1 (d : Dev) (x : Wr) (k : Int) (keep : Bool) (ta qa da la : Option Addr) (tc qc dc lc : Nat) (w : World) (h : DevR w NoM d ta tc qa qc da dc la lc) (hot : ∀ r ∈ d.table, OutR w r) (hoq : ∀ y ∈ d.queue, OutR w y.rule) (ht : d.table.length ≤ 9223372036854775807) (hq : d.queue.length ≤ 9223372036854775807) (hox : OutR w x.rule) (hlt : x.ep < d.ep) (kn : Nat) (y : Wr) (hkn : d.queue[kn]? = some y) (hry : rdyB d.queue kn = true) :
    Calls Try.prog 7 #[.agg (devC d ta tc qa qc da dc la lc), .agg (wrC x), .int .i64 kn, .bool keep] w fun e w' => e = .returned (.bool true) ∧ Kept NoM w w' := by
  have HLT := Lib.hid hlt
  have HKN := Lib.hid hkn
  have HRY := Lib.hid hry
  clear hlt hkn hry
  have HOX := Lib.hid (fun wx (k : Kept NoM w wx) => hox.kept k)
  clear hox
  have K0 := (((Kept.refl NoM w).alloc (.cells (devC d ta tc qa qc da dc la lc) 27)).alloc (.cells (wrC x) 41))
  have HD := Lib.hid (blk_old (blk_new w (.cells (devC d ta tc qa qc da dc la lc) 27)) (.cells (wrC x) 41))
  have HX := Lib.hid (blk_new' (w.alloc (.cells (devC d ta tc qa qc da dc la lc) 27)) (.cells (wrC x) 41) (w.heap.size + 1) (by simp))
  have KW := Lib.hid K0
  have RR := Lib.hid (h.kept K0.of_no)
  have OT := Lib.hid (fun wx (k : Kept NoM w wx) r hr => (hot r hr).kept k)
  have OQ := Lib.hid (fun wx (k : Kept NoM w wx) y hy => (hoq y hy).kept k)
  clear K0 h hot hoq
  go_enter Try.func7, Try.ntmps7
  go_wp2_with fail
  refine (sanity_ok _).mono ?_
  rintro e w1 ⟨rfl, kk⟩
  replace HD := Lib.hid (kk.blk HD.out (fun x => x))
  replace HX := Lib.hid (kk.blk HX.out (fun x => x))
  replace RR := Lib.hid (RR.out.kept kk)
  replace KW := Lib.hid (KW.out.trans kk)
  clear kk
  go_wp2_with (first
        | (refine wpList_load_big bigDev rfl _ rfl w.heap.size 0 (devC d ta tc qa qc da dc la lc) rfl (range_blk HD.out) rfl ?_))
  refine (right_ok d ta qa da la tc qc dc lc NoM w1 RR.out (OT.out _ KW.out) (OQ.out _ KW.out) ht hq).mono ?_
  rintro e w2 ⟨b1, rfl, hb1, kk⟩
  clear OT OQ
  replace HD := Lib.hid (kk.blk HD.out (fun x => x))
  replace HX := Lib.hid (kk.blk HX.out (fun x => x))
  replace RR := Lib.hid (RR.out.kept kk)
  replace KW := Lib.hid (KW.out.trans kk)
  clear kk
  cases b1 with
  | false =>
    go_wp2_with fail
    go_ret
    exact ⟨rfl, KW.out⟩
  | true =>
    obtain ⟨⟨hfew, hdb⟩, R⟩ := hb1 rfl
    have HB := Lib.hid hdb
    have RDD := Lib.hid R
    have FW : Hid (Few d) := Lib.hid ⟨by omega, by omega, by omega⟩
    have HFEW := Lib.hid hfew
    clear hb1 hdb R hfew
    go_wp2_with (first
          | (refine wpList_load_bigG bigWr (by rfl) _ rfl (w.heap.size + 1) 0 (wrC x) rfl (range_blk HX.out) rfl ?_))
    have ka := (Kept.refl NoM w2).alloc (.cells (wrC x) 41)
    replace HD := Lib.hid (ka.blk HD.out (fun x => x))
    replace HX := Lib.hid (ka.blk HX.out (fun x => x))
    replace RR := Lib.hid (RR.out.kept ka)
    replace HB := Lib.hid (HB.out.kept ka)
    replace KW := Lib.hid (KW.out.trans ka)
    refine (formedl_ok _ [x] NoM 1 _ (rd_one (blk_new w2 _) (fun x => x) rfl rfl) (by simp) (fun y hy => by rw [List.mem_singleton] at hy; subst hy; exact HOX.out _ KW.out)).mono ?_
    rintro e w3 ⟨b2, rfl, hb2, kk⟩
    have kx := ka.trans kk
    clear ka
    replace HD := Lib.hid (kk.blk HD.out (fun x => x))
    replace HX := Lib.hid (kk.blk HX.out (fun x => x))
    replace RR := Lib.hid (RR.out.kept kk)
    replace HB := Lib.hid (HB.out.kept kk)
    replace KW := Lib.hid (KW.out.trans kk)
    cases b2 with
    | false =>
      go_wp2_with fail
      go_ret
      exact ⟨rfl, KW.out⟩
    | true =>
      obtain ⟨⟨_, hox2⟩, hfx⟩ := hb2 rfl
      have FX := Lib.hid (hfx x (List.mem_singleton.2 rfl))
      have OX := Lib.hid ((hox2 x (List.mem_singleton.2 rfl)).kept kk)
      clear hb2 hox2 hfx kx kk HOX
      have RA := Lib.hid (RDD.out.recv FX.out)
      have EA := Lib.hid (recv_ep (d := d) (w := x))
      go_wp2_with (first
            | (refine wpList_load_big bigDev rfl _ rfl w.heap.size 0 (devC d ta tc qa qc da dc la lc) rfl (range_blk HD.out) rfl ?_)
            | (refine wpList_load_big bigWr rfl _ rfl (w.heap.size + 1) 0 (wrC x) rfl (range_blk HX.out) rfl ?_))
      have hrv := recv_old (show x.ep < d.ep from HLT.out)
      have hcall := recv_ok _ d x NoM w3 ⟨_, _, _, _, _, _, _, _, rfl, RR.out⟩ noM_lt RDD.out.ql FW.out.dn (fun wx _ => by have := formed_ok x wx (by have := (formed_kind FX.out).1; omega) (by have := (formed_kind FX.out).1; omega); rw [FX.out] at this; exact this)
      rw [hrv.1, hrv.2] at hcall
      rw [hrv.1] at RA
      clear hrv EA
      refine (hcall).mono ?_
      rintro e w4 ⟨v7, av7, rfl, dd7, aa7, kk⟩
      obtain ⟨ta4, tc4, qa4, qc4, da4, dc4, la4, lc4, rfl, r7⟩ := dd7
      obtain ⟨aa4, ac4, ea7, _, _⟩ := aa7.shape
      have ea8 : av7 = .slice aa4 1 ac4 := ea7
      subst ea8
      clear ea7
      replace HD := Lib.hid (kk.blk HD.out (fun x => x))
      replace HX := Lib.hid (kk.blk HX.out (fun x => x))
      replace RR := Lib.hid (RR.out.kept kk)
      replace HB := Lib.hid (HB.out.kept kk)
      replace OX := Lib.hid (OX.out.kept kk)
      replace KW := Lib.hid (KW.out.trans kk)
      clear kk
      have kk := (Kept.refl NoM w4).alloc (.cells (devC d ta4 tc4 qa4 qc4 da4 dc4 la4 lc4) 27)
      replace HD := Lib.hid (kk.blk HD.out (fun x => x))
      replace HX := Lib.hid (kk.blk HX.out (fun x => x))
      replace RR := Lib.hid (RR.out.kept kk)
      replace HB := Lib.hid (HB.out.kept kk)
      replace OX := Lib.hid (OX.out.kept kk)
      replace KW := Lib.hid (KW.out.trans kk)
      have HA := Lib.hid (blk_new w4 (.cells (devC d ta4 tc4 qa4 qc4 da4 dc4 la4 lc4) 27))
      have RrA := Lib.hid (r7.kept kk)
      have AA := Lib.hid (aa7.kept kk.of_no (M := NoM) (fun _ _ x => x))
      clear kk r7 aa7
      clear hcall
      go_wp2_with (first
            | (refine wpList_alloc_Z rfl 27 rfl _ (devZ _) ?_)
            | (refine wpList_store_bign (cs := devC d ta4 tc4 qa4 qc4 da4 dc4 la4 lc4) bigDev rfl _ _ rfl _ rfl rfl rfl rfl rfl (dev1 _ _ _ _ _ _ _ _ _) ?_)
            | (refine wpList_load_big bigDev rfl _ rfl w.heap.size 0 (devC d ta tc qa qc da dc la lc) rfl (range_blk HD.out) rfl ?_))
      generalize w4.heap.size = BA at *
      generalize w4.alloc (.cells (devC d ta4 tc4 qa4 qc4 da4 dc4 la4 lc4) 27) = uA at *
      refine (do_ok _ d kn y NoM uA ⟨_, _, _, _, _, _, _, _, rfl, RR.out⟩ noM_lt RDD.out FW.out HKN.out HRY.out).mono ?_
      rintro e w5 ⟨v7, av7, rfl, dd7, aa7, kk⟩
      obtain ⟨ta5, tc5, qa5, qc5, da5, dc5, la5, lc5, rfl, r7⟩ := dd7
      obtain ⟨aa5, ac5, ea7, _, _⟩ := aa7.shape
      have ea8 : av7 = .slice aa5 (doA d y).length ac5 := ea7
      subst ea8
      clear ea7
      replace HD := Lib.hid (kk.blk HD.out (fun x => x))
      replace HX := Lib.hid (kk.blk HX.out (fun x => x))
      replace HA := Lib.hid (kk.blk HA.out (fun x => x))
      replace RR := Lib.hid (RR.out.kept kk)
      replace HB := Lib.hid (HB.out.kept kk)
      replace OX := Lib.hid (OX.out.kept kk)
      replace RrA := Lib.hid (RrA.out.kept kk)
      replace AA := Lib.hid (AA.out.kept kk.of_no (fun _ _ x => x))
      replace KW := Lib.hid (KW.out.trans kk)
      clear kk
      have kk := (Kept.refl NoM w5).alloc (.cells (devC (doW d kn y) ta5 tc5 qa5 qc5 da5 dc5 la5 lc5) 27)
      replace HD := Lib.hid (kk.blk HD.out (fun x => x))
      replace HX := Lib.hid (kk.blk HX.out (fun x => x))
      replace HA := Lib.hid (kk.blk HA.out (fun x => x))
      replace RR := Lib.hid (RR.out.kept kk)
      replace HB := Lib.hid (HB.out.kept kk)
      replace OX := Lib.hid (OX.out.kept kk)
      replace RrA := Lib.hid (RrA.out.kept kk)
      replace AA := Lib.hid (AA.out.kept kk.of_no (fun _ _ x => x))
      replace KW := Lib.hid (KW.out.trans kk)
      have HB5 := Lib.hid (blk_new w5 (.cells (devC (doW d kn y) ta5 tc5 qa5 qc5 da5 dc5 la5 lc5) 27))
      have RrB5 := Lib.hid (r7.kept kk)
      have AB5 := Lib.hid (aa7.kept kk.of_no (M := NoM) (fun _ _ x => x))
      clear kk r7 aa7
      go_wp2_with (first
            | (refine wpList_alloc_Z rfl 27 rfl _ (devZ _) ?_)
            | (refine wpList_store_bign (cs := devC (doW d kn y) ta5 tc5 qa5 qc5 da5 dc5 la5 lc5) bigDev rfl _ _ rfl _ rfl rfl rfl rfl rfl (dev1 _ _ _ _ _ _ _ _ _) ?_)
            | (refine wpList_load_big bigDev rfl _ rfl w.heap.size 0 (devC d ta tc qa qc da dc la lc) rfl (range_blk HD.out) rfl ?_))
      generalize w5.heap.size = BB at *
      generalize w5.alloc (.cells (devC (doW d kn y) ta5 tc5 qa5 qc5 da5 dc5 la5 lc5) 27) = uB at *
      refine (reb_ok d ta qa da la tc qc dc lc NoM keep uB RR.out).mono ?_
      rintro e w6 ⟨v7, rfl, dd7, kk⟩
      obtain ⟨ta6, tc6, qa6, qc6, da6, dc6, la6, lc6, rfl, r7⟩ := dd7
      replace HD := Lib.hid (kk.blk HD.out (fun x => x))
      replace HX := Lib.hid (kk.blk HX.out (fun x => x))
      replace HA := Lib.hid (kk.blk HA.out (fun x => x))
      replace HB5 := Lib.hid (kk.blk HB5.out (fun x => x))
      replace RR := Lib.hid (RR.out.kept kk)
      replace HB := Lib.hid (HB.out.kept kk)
      replace OX := Lib.hid (OX.out.kept kk)
      replace RrA := Lib.hid (RrA.out.kept kk)
      replace RrB5 := Lib.hid (RrB5.out.kept kk)
      replace AA := Lib.hid (AA.out.kept kk.of_no (fun _ _ x => x))
      replace AB5 := Lib.hid (AB5.out.kept kk.of_no (fun _ _ x => x))
      replace KW := Lib.hid (KW.out.trans kk)
      clear kk
      have kk := (Kept.refl NoM w6).alloc (.cells (devC (rebD d keep) ta6 tc6 qa6 qc6 da6 dc6 la6 lc6) 27)
      replace HD := Lib.hid (kk.blk HD.out (fun x => x))
      replace HX := Lib.hid (kk.blk HX.out (fun x => x))
      replace HA := Lib.hid (kk.blk HA.out (fun x => x))
      replace HB5 := Lib.hid (kk.blk HB5.out (fun x => x))
      replace RR := Lib.hid (RR.out.kept kk)
      replace HB := Lib.hid (HB.out.kept kk)
      replace OX := Lib.hid (OX.out.kept kk)
      replace RrA := Lib.hid (RrA.out.kept kk)
      replace RrB5 := Lib.hid (RrB5.out.kept kk)
      replace AA := Lib.hid (AA.out.kept kk.of_no (fun _ _ x => x))
      replace AB5 := Lib.hid (AB5.out.kept kk.of_no (fun _ _ x => x))
      replace KW := Lib.hid (KW.out.trans kk)
      have HC := Lib.hid (blk_new w6 (.cells (devC (rebD d keep) ta6 tc6 qa6 qc6 da6 dc6 la6 lc6) 27))
      have RrC := Lib.hid (r7.kept kk)
      clear kk r7
      go_wp2_with (first
            | (refine wpList_alloc_Z rfl 27 rfl _ (devZ _) ?_)
            | (refine wpList_store_bign (cs := devC (rebD d keep) ta6 tc6 qa6 qc6 da6 dc6 la6 lc6) bigDev rfl _ _ rfl _ rfl rfl rfl rfl rfl (dev1 _ _ _ _ _ _ _ _ _) ?_)
            | (refine wpList_load_bigG bigDev (by rfl) _ rfl BA 0 (devC d ta4 tc4 qa4 qc4 da4 dc4 la4 lc4) rfl (range_blk HA.out) rfl ?_))
      generalize w6.heap.size = BC at *
      generalize w6.alloc (.cells (devC (rebD d keep) ta6 tc6 qa6 qc6 da6 dc6 la6 lc6) 27) = uC at *
      have hbA : DevB uC d := HB.out
      refine (rcheck_ok d _ _ _ _ _ _ _ _ NoM uC RrA.out hbA).mono ?_
      rintro e w7 ⟨c7, rfl, hc7, kk⟩
      obtain rfl : c7 = 0 := hc7.2 RA.out
      clear hc7 hbA
      replace HD := Lib.hid (kk.blk HD.out (fun x => x))
      replace HX := Lib.hid (kk.blk HX.out (fun x => x))
      replace HA := Lib.hid (kk.blk HA.out (fun x => x))
      replace HB5 := Lib.hid (kk.blk HB5.out (fun x => x))
      replace HC := Lib.hid (kk.blk HC.out (fun x => x))
      replace RR := Lib.hid (RR.out.kept kk)
      replace HB := Lib.hid (HB.out.kept kk)
      replace OX := Lib.hid (OX.out.kept kk)
      replace RrA := Lib.hid (RrA.out.kept kk)
      replace RrB5 := Lib.hid (RrB5.out.kept kk)
      replace RrC := Lib.hid (RrC.out.kept kk)
      replace AA := Lib.hid (AA.out.kept kk.of_no (fun _ _ x => x))
      replace AB5 := Lib.hid (AB5.out.kept kk.of_no (fun _ _ x => x))
      replace KW := Lib.hid (KW.out.trans kk)
      clear kk
      have y1 := cell_blk HA.out 1 _ dv1
      have z1 := cell_blk HD.out 1 _ dv1
      have x0 := cell_blk HX.out 0 _ (wrC_0 x)
      have x9 : (max d.ep x.ep : Int) = d.ep := by have := HLT.out; omega
      go_wp2_with (first
            | (refine wpList_load_bigG bigDev (by rfl) _ rfl BC 0 (devC (rebD d keep) ta6 tc6 qa6 qc6 da6 dc6 la6 lc6) rfl (range_blk HC.out) rfl ?_))
      have hbC : DevB w7 (rebD d keep) := DevB.reb HB.out keep
      refine (rcheck_ok (rebD d keep) _ _ _ _ _ _ _ _ NoM w7 RrC.out hbC).mono ?_
      rintro e w8 ⟨c8, rfl, hc8, kk⟩
      obtain rfl : c8 = 0 := hc8.2 (RDD.out.reb keep)
      clear hc8 hbC y1 z1 x0 x9
      replace HD := Lib.hid (kk.blk HD.out (fun x => x))
      replace HX := Lib.hid (kk.blk HX.out (fun x => x))
      replace HA := Lib.hid (kk.blk HA.out (fun x => x))
      replace HB5 := Lib.hid (kk.blk HB5.out (fun x => x))
      replace HC := Lib.hid (kk.blk HC.out (fun x => x))
      replace RR := Lib.hid (RR.out.kept kk)
      replace HB := Lib.hid (HB.out.kept kk)
      replace OX := Lib.hid (OX.out.kept kk)
      replace RrA := Lib.hid (RrA.out.kept kk)
      replace RrB5 := Lib.hid (RrB5.out.kept kk)
      replace RrC := Lib.hid (RrC.out.kept kk)
      replace AA := Lib.hid (AA.out.kept kk.of_no (fun _ _ x => x))
      replace AB5 := Lib.hid (AB5.out.kept kk.of_no (fun _ _ x => x))
      replace KW := Lib.hid (KW.out.trans kk)
      clear kk
      have y1 : w8.cell? ⟨BC, 1, none⟩ = some (.int .i64 d.ep) := cell_blk HC.out 1 _ dv1
      have z1 := cell_blk HD.out 1 _ dv1
      have x0 := cell_blk HX.out 0 _ (wrC_0 x)
      have flt := HLT.out
      go_wp2_with (first
            | (refine wpList_load_bigG bigDev (by rfl) _ rfl BA 0 (devC d ta4 tc4 qa4 qc4 da4 dc4 la4 lc4) rfl (range_blk HA.out) rfl ?_)
            | (refine wpList_load_bigG bigDev (by rfl) _ rfl w.heap.size 0 (devC d ta tc qa qc da dc la lc) rfl (range_blk HD.out) rfl ?_))
      refine (dsame_ok _ _ d NoM NoM w8 ⟨_, _, _, _, _, _, _, _, rfl, RrA.out⟩ ⟨_, _, _, _, _, _, _, _, rfl, RR.out⟩ HB.out).mono ?_
      rintro e w9 ⟨rfl, kk⟩
      replace HD := Lib.hid (kk.blk HD.out (fun x => x))
      replace HX := Lib.hid (kk.blk HX.out (fun x => x))
      replace HA := Lib.hid (kk.blk HA.out (fun x => x))
      replace HB5 := Lib.hid (kk.blk HB5.out (fun x => x))
      replace HC := Lib.hid (kk.blk HC.out (fun x => x))
      replace RR := Lib.hid (RR.out.kept kk)
      replace HB := Lib.hid (HB.out.kept kk)
      replace OX := Lib.hid (OX.out.kept kk)
      replace RrA := Lib.hid (RrA.out.kept kk)
      replace RrB5 := Lib.hid (RrB5.out.kept kk)
      replace RrC := Lib.hid (RrC.out.kept kk)
      replace AA := Lib.hid (AA.out.kept kk.of_no (fun _ _ x => x))
      replace AB5 := Lib.hid (AB5.out.kept kk.of_no (fun _ _ x => x))
      replace KW := Lib.hid (KW.out.trans kk)
      clear kk
      obtain ⟨lb, lo, hle, hlc⟩ := ak_at AA.out (k := 0) rfl
      subst hle
      have ya := hlc
      clear y1 z1 x0
      go_wp2_with (first
            | (refine wpList_load_bigG bigDev (by rfl) _ rfl BB 0 (devC (doW d kn y) ta5 tc5 qa5 qc5 da5 dc5 la5 lc5) rfl (range_blk HB5.out) rfl ?_))
      have hbB : DevB w9 (doW d kn y) := DevB.doW HB.out FW.out HKN.out
      refine (rcheck_ok (doW d kn y) _ _ _ _ _ _ _ _ NoM w9 RrB5.out hbB).mono ?_
      rintro e w10 ⟨c10, rfl, hc10, kk⟩
      obtain rfl : c10 = 0 := hc10.2 (RDD.out.doW HKN.out)
      clear hc10 hbB
      replace HD := Lib.hid (kk.blk HD.out (fun x => x))
      replace HX := Lib.hid (kk.blk HX.out (fun x => x))
      replace HA := Lib.hid (kk.blk HA.out (fun x => x))
      replace HB5 := Lib.hid (kk.blk HB5.out (fun x => x))
      replace HC := Lib.hid (kk.blk HC.out (fun x => x))
      replace RR := Lib.hid (RR.out.kept kk)
      replace HB := Lib.hid (HB.out.kept kk)
      replace OX := Lib.hid (OX.out.kept kk)
      replace RrA := Lib.hid (RrA.out.kept kk)
      replace RrB5 := Lib.hid (RrB5.out.kept kk)
      replace RrC := Lib.hid (RrC.out.kept kk)
      replace AA := Lib.hid (AA.out.kept kk.of_no (fun _ _ x => x))
      replace AB5 := Lib.hid (AB5.out.kept kk.of_no (fun _ _ x => x))
      replace KW := Lib.hid (KW.out.trans kk)
      clear kk
      have y1 : w10.cell? ⟨BB, 1, none⟩ = some (.int .i64 d.ep) := cell_blk HB5.out 1 _ dv1
      have z1 := cell_blk HD.out 1 _ dv1
      have y3 := cell_blk HB5.out 3 _ dv3
      have z3 := cell_blk HD.out 3 _ dv3
      have hql : (doW d kn y).queue.length + 1 = d.queue.length := doW_len HKN.out
      have hwl : IntKind.i64.wrap ((d.queue.length : Int) - 1) = ((doW d kn y).queue.length : Int) := by rw [IntWalk.i64_in _ (by have := RDD.out.ql; omega)]; omega
      go_wp2_with fail
      go_ret
      exact ⟨rfl, KW.out⟩
theorem stays_2 (d : Dev) (x : Wr) (k : Int) (keep : Bool) (ta qa da la : Option Addr) (tc qc dc lc : Nat) (w : World) (h : DevR w NoM d ta tc qa qc da dc la lc) (hot : ∀ r ∈ d.table, OutR w r) (hoq : ∀ y ∈ d.queue, OutR w y.rule) (ht : d.table.length ≤ 9223372036854775807) (hq : d.queue.length ≤ 9223372036854775807) (hox : OutR w x.rule) (hlt : x.ep < d.ep) (hnr : hasI (rdyTo d.queue d.queue.length) k = false) :
    Calls Try.prog 7 #[.agg (devC d ta tc qa qc da dc la lc), .agg (wrC x), .int .i64 k, .bool keep] w fun e w' => e = .returned (.bool true) ∧ Kept NoM w w' := by
  have HLT := Lib.hid hlt
  have HNR := Lib.hid hnr
  clear hlt hnr
  have HOX := Lib.hid (fun wx (k : Kept NoM w wx) => hox.kept k)
  clear hox
  have K0 := (((Kept.refl NoM w).alloc (.cells (devC d ta tc qa qc da dc la lc) 27)).alloc (.cells (wrC x) 41))
  have HD := Lib.hid (blk_old (blk_new w (.cells (devC d ta tc qa qc da dc la lc) 27)) (.cells (wrC x) 41))
  have HX := Lib.hid (blk_new' (w.alloc (.cells (devC d ta tc qa qc da dc la lc) 27)) (.cells (wrC x) 41) (w.heap.size + 1) (by simp))
  have KW := Lib.hid K0
  have RR := Lib.hid (h.kept K0.of_no)
  have OT := Lib.hid (fun wx (k : Kept NoM w wx) r hr => (hot r hr).kept k)
  have OQ := Lib.hid (fun wx (k : Kept NoM w wx) y hy => (hoq y hy).kept k)
  clear K0 h hot hoq
  go_enter Try.func7, Try.ntmps7
  go_wp2_with fail
  refine (sanity_ok _).mono ?_
  rintro e w1 ⟨rfl, kk⟩
  replace HD := Lib.hid (kk.blk HD.out (fun x => x))
  replace HX := Lib.hid (kk.blk HX.out (fun x => x))
  replace RR := Lib.hid (RR.out.kept kk)
  replace KW := Lib.hid (KW.out.trans kk)
  clear kk
  go_wp2_with (first
        | (refine wpList_load_big bigDev rfl _ rfl w.heap.size 0 (devC d ta tc qa qc da dc la lc) rfl (range_blk HD.out) rfl ?_))
  refine (right_ok d ta qa da la tc qc dc lc NoM w1 RR.out (OT.out _ KW.out) (OQ.out _ KW.out) ht hq).mono ?_
  rintro e w2 ⟨b1, rfl, hb1, kk⟩
  clear OT OQ
  replace HD := Lib.hid (kk.blk HD.out (fun x => x))
  replace HX := Lib.hid (kk.blk HX.out (fun x => x))
  replace RR := Lib.hid (RR.out.kept kk)
  replace KW := Lib.hid (KW.out.trans kk)
  clear kk
  cases b1 with
  | false =>
    go_wp2_with fail
    go_ret
    exact ⟨rfl, KW.out⟩
  | true =>
    obtain ⟨⟨hfew, hdb⟩, R⟩ := hb1 rfl
    have HB := Lib.hid hdb
    have RDD := Lib.hid R
    have FW : Hid (Few d) := Lib.hid ⟨by omega, by omega, by omega⟩
    have HFEW := Lib.hid hfew
    clear hb1 hdb R hfew
    go_wp2_with (first
          | (refine wpList_load_bigG bigWr (by rfl) _ rfl (w.heap.size + 1) 0 (wrC x) rfl (range_blk HX.out) rfl ?_))
    have ka := (Kept.refl NoM w2).alloc (.cells (wrC x) 41)
    replace HD := Lib.hid (ka.blk HD.out (fun x => x))
    replace HX := Lib.hid (ka.blk HX.out (fun x => x))
    replace RR := Lib.hid (RR.out.kept ka)
    replace HB := Lib.hid (HB.out.kept ka)
    replace KW := Lib.hid (KW.out.trans ka)
    refine (formedl_ok _ [x] NoM 1 _ (rd_one (blk_new w2 _) (fun x => x) rfl rfl) (by simp) (fun y hy => by rw [List.mem_singleton] at hy; subst hy; exact HOX.out _ KW.out)).mono ?_
    rintro e w3 ⟨b2, rfl, hb2, kk⟩
    have kx := ka.trans kk
    clear ka
    replace HD := Lib.hid (kk.blk HD.out (fun x => x))
    replace HX := Lib.hid (kk.blk HX.out (fun x => x))
    replace RR := Lib.hid (RR.out.kept kk)
    replace HB := Lib.hid (HB.out.kept kk)
    replace KW := Lib.hid (KW.out.trans kk)
    cases b2 with
    | false =>
      go_wp2_with fail
      go_ret
      exact ⟨rfl, KW.out⟩
    | true =>
      obtain ⟨⟨_, hox2⟩, hfx⟩ := hb2 rfl
      have FX := Lib.hid (hfx x (List.mem_singleton.2 rfl))
      have OX := Lib.hid ((hox2 x (List.mem_singleton.2 rfl)).kept kk)
      clear hb2 hox2 hfx kx kk HOX
      have RA := Lib.hid (RDD.out.recv FX.out)
      have EA := Lib.hid (recv_ep (d := d) (w := x))
      go_wp2_with (first
            | (refine wpList_load_big bigDev rfl _ rfl w.heap.size 0 (devC d ta tc qa qc da dc la lc) rfl (range_blk HD.out) rfl ?_)
            | (refine wpList_load_big bigWr rfl _ rfl (w.heap.size + 1) 0 (wrC x) rfl (range_blk HX.out) rfl ?_))
      have hrv := recv_old (show x.ep < d.ep from HLT.out)
      have hcall := recv_ok _ d x NoM w3 ⟨_, _, _, _, _, _, _, _, rfl, RR.out⟩ noM_lt RDD.out.ql FW.out.dn (fun wx _ => by have := formed_ok x wx (by have := (formed_kind FX.out).1; omega) (by have := (formed_kind FX.out).1; omega); rw [FX.out] at this; exact this)
      rw [hrv.1, hrv.2] at hcall
      rw [hrv.1] at RA
      clear hrv EA
      refine (hcall).mono ?_
      rintro e w4 ⟨v7, av7, rfl, dd7, aa7, kk⟩
      obtain ⟨ta4, tc4, qa4, qc4, da4, dc4, la4, lc4, rfl, r7⟩ := dd7
      obtain ⟨aa4, ac4, ea7, _, _⟩ := aa7.shape
      have ea8 : av7 = .slice aa4 1 ac4 := ea7
      subst ea8
      clear ea7
      replace HD := Lib.hid (kk.blk HD.out (fun x => x))
      replace HX := Lib.hid (kk.blk HX.out (fun x => x))
      replace RR := Lib.hid (RR.out.kept kk)
      replace HB := Lib.hid (HB.out.kept kk)
      replace OX := Lib.hid (OX.out.kept kk)
      replace KW := Lib.hid (KW.out.trans kk)
      clear kk
      have kk := (Kept.refl NoM w4).alloc (.cells (devC d ta4 tc4 qa4 qc4 da4 dc4 la4 lc4) 27)
      replace HD := Lib.hid (kk.blk HD.out (fun x => x))
      replace HX := Lib.hid (kk.blk HX.out (fun x => x))
      replace RR := Lib.hid (RR.out.kept kk)
      replace HB := Lib.hid (HB.out.kept kk)
      replace OX := Lib.hid (OX.out.kept kk)
      replace KW := Lib.hid (KW.out.trans kk)
      have HA := Lib.hid (blk_new w4 (.cells (devC d ta4 tc4 qa4 qc4 da4 dc4 la4 lc4) 27))
      have RrA := Lib.hid (r7.kept kk)
      have AA := Lib.hid (aa7.kept kk.of_no (M := NoM) (fun _ _ x => x))
      clear kk r7 aa7
      clear hcall
      go_wp2_with (first
            | (refine wpList_alloc_Z rfl 27 rfl _ (devZ _) ?_)
            | (refine wpList_store_bign (cs := devC d ta4 tc4 qa4 qc4 da4 dc4 la4 lc4) bigDev rfl _ _ rfl _ rfl rfl rfl rfl rfl (dev1 _ _ _ _ _ _ _ _ _) ?_)
            | (refine wpList_load_big bigDev rfl _ rfl w.heap.size 0 (devC d ta tc qa qc da dc la lc) rfl (range_blk HD.out) rfl ?_))
      generalize w4.heap.size = BA at *
      generalize w4.alloc (.cells (devC d ta4 tc4 qa4 qc4 da4 dc4 la4 lc4) 27) = uA at *
      refine (do_bad d k ta qa da la tc qc dc lc NoM uA RR.out (by have := RDD.out.ql; omega) (fun y hy => by have := formed_pri (RDD.out.q y hy).1; omega) HNR.out).mono ?_
      rintro e w5 ⟨rfl, kk⟩
      replace HD := Lib.hid (kk.blk HD.out (fun x => x))
      replace HX := Lib.hid (kk.blk HX.out (fun x => x))
      replace HA := Lib.hid (kk.blk HA.out (fun x => x))
      replace RR := Lib.hid (RR.out.kept kk)
      replace HB := Lib.hid (HB.out.kept kk)
      replace OX := Lib.hid (OX.out.kept kk)
      replace RrA := Lib.hid (RrA.out.kept kk)
      replace AA := Lib.hid (AA.out.kept kk.of_no (fun _ _ x => x))
      replace KW := Lib.hid (KW.out.trans kk)
      clear kk
      have kk := (Kept.refl NoM w5).alloc (.cells devZC 27)
      replace HD := Lib.hid (kk.blk HD.out (fun x => x))
      replace HX := Lib.hid (kk.blk HX.out (fun x => x))
      replace HA := Lib.hid (kk.blk HA.out (fun x => x))
      replace RR := Lib.hid (RR.out.kept kk)
      replace HB := Lib.hid (HB.out.kept kk)
      replace OX := Lib.hid (OX.out.kept kk)
      replace RrA := Lib.hid (RrA.out.kept kk)
      replace AA := Lib.hid (AA.out.kept kk.of_no (fun _ _ x => x))
      replace KW := Lib.hid (KW.out.trans kk)
      have HBB := Lib.hid (blk_new w5 (.cells devZC 27))
      clear kk
      go_wp2_with (first
            | (refine wpList_alloc_Z rfl 27 rfl _ (devZ _) ?_)
            | (refine wpList_store_bign (cs := devZC) bigDev rfl _ _ rfl _ rfl rfl rfl rfl rfl (dev1 _ _ _ _ _ _ _ _ _) ?_)
            | (refine wpList_load_big bigDev rfl _ rfl w.heap.size 0 (devC d ta tc qa qc da dc la lc) rfl (range_blk HD.out) rfl ?_))
      generalize w5.heap.size = BB at *
      generalize w5.alloc (.cells devZC 27) = uB at *
      refine (reb_ok d ta qa da la tc qc dc lc NoM keep uB RR.out).mono ?_
      rintro e w6 ⟨v7, rfl, dd7, kk⟩
      obtain ⟨ta6, tc6, qa6, qc6, da6, dc6, la6, lc6, rfl, r7⟩ := dd7
      replace HD := Lib.hid (kk.blk HD.out (fun x => x))
      replace HX := Lib.hid (kk.blk HX.out (fun x => x))
      replace HA := Lib.hid (kk.blk HA.out (fun x => x))
      replace HBB := Lib.hid (kk.blk HBB.out (fun x => x))
      replace RR := Lib.hid (RR.out.kept kk)
      replace HB := Lib.hid (HB.out.kept kk)
      replace OX := Lib.hid (OX.out.kept kk)
      replace RrA := Lib.hid (RrA.out.kept kk)
      replace AA := Lib.hid (AA.out.kept kk.of_no (fun _ _ x => x))
      replace KW := Lib.hid (KW.out.trans kk)
      clear kk
      have kk := (Kept.refl NoM w6).alloc (.cells (devC (rebD d keep) ta6 tc6 qa6 qc6 da6 dc6 la6 lc6) 27)
      replace HD := Lib.hid (kk.blk HD.out (fun x => x))
      replace HX := Lib.hid (kk.blk HX.out (fun x => x))
      replace HA := Lib.hid (kk.blk HA.out (fun x => x))
      replace HBB := Lib.hid (kk.blk HBB.out (fun x => x))
      replace RR := Lib.hid (RR.out.kept kk)
      replace HB := Lib.hid (HB.out.kept kk)
      replace OX := Lib.hid (OX.out.kept kk)
      replace RrA := Lib.hid (RrA.out.kept kk)
      replace AA := Lib.hid (AA.out.kept kk.of_no (fun _ _ x => x))
      replace KW := Lib.hid (KW.out.trans kk)
      have HC := Lib.hid (blk_new w6 (.cells (devC (rebD d keep) ta6 tc6 qa6 qc6 da6 dc6 la6 lc6) 27))
      have RrC := Lib.hid (r7.kept kk)
      clear kk r7
      go_wp2_with (first
            | (refine wpList_alloc_Z rfl 27 rfl _ (devZ _) ?_)
            | (refine wpList_store_bign (cs := devC (rebD d keep) ta6 tc6 qa6 qc6 da6 dc6 la6 lc6) bigDev rfl _ _ rfl _ rfl rfl rfl rfl rfl (dev1 _ _ _ _ _ _ _ _ _) ?_)
            | (refine wpList_load_bigG bigDev (by rfl) _ rfl BA 0 (devC d ta4 tc4 qa4 qc4 da4 dc4 la4 lc4) rfl (range_blk HA.out) rfl ?_))
      generalize w6.heap.size = BC at *
      generalize w6.alloc (.cells (devC (rebD d keep) ta6 tc6 qa6 qc6 da6 dc6 la6 lc6) 27) = uC at *
      have hbA : DevB uC d := HB.out
      refine (rcheck_ok d _ _ _ _ _ _ _ _ NoM uC RrA.out hbA).mono ?_
      rintro e w7 ⟨c7, rfl, hc7, kk⟩
      obtain rfl : c7 = 0 := hc7.2 RA.out
      clear hc7 hbA
      replace HD := Lib.hid (kk.blk HD.out (fun x => x))
      replace HX := Lib.hid (kk.blk HX.out (fun x => x))
      replace HA := Lib.hid (kk.blk HA.out (fun x => x))
      replace HBB := Lib.hid (kk.blk HBB.out (fun x => x))
      replace HC := Lib.hid (kk.blk HC.out (fun x => x))
      replace RR := Lib.hid (RR.out.kept kk)
      replace HB := Lib.hid (HB.out.kept kk)
      replace OX := Lib.hid (OX.out.kept kk)
      replace RrA := Lib.hid (RrA.out.kept kk)
      replace RrC := Lib.hid (RrC.out.kept kk)
      replace AA := Lib.hid (AA.out.kept kk.of_no (fun _ _ x => x))
      replace KW := Lib.hid (KW.out.trans kk)
      clear kk
      have y1 := cell_blk HA.out 1 _ dv1
      have z1 := cell_blk HD.out 1 _ dv1
      have x0 := cell_blk HX.out 0 _ (wrC_0 x)
      have x9 : (max d.ep x.ep : Int) = d.ep := by have := HLT.out; omega
      go_wp2_with (first
            | (refine wpList_load_bigG bigDev (by rfl) _ rfl BC 0 (devC (rebD d keep) ta6 tc6 qa6 qc6 da6 dc6 la6 lc6) rfl (range_blk HC.out) rfl ?_))
      have hbC : DevB w7 (rebD d keep) := DevB.reb HB.out keep
      refine (rcheck_ok (rebD d keep) _ _ _ _ _ _ _ _ NoM w7 RrC.out hbC).mono ?_
      rintro e w8 ⟨c8, rfl, hc8, kk⟩
      obtain rfl : c8 = 0 := hc8.2 (RDD.out.reb keep)
      clear hc8 hbC y1 z1 x0 x9
      replace HD := Lib.hid (kk.blk HD.out (fun x => x))
      replace HX := Lib.hid (kk.blk HX.out (fun x => x))
      replace HA := Lib.hid (kk.blk HA.out (fun x => x))
      replace HBB := Lib.hid (kk.blk HBB.out (fun x => x))
      replace HC := Lib.hid (kk.blk HC.out (fun x => x))
      replace RR := Lib.hid (RR.out.kept kk)
      replace HB := Lib.hid (HB.out.kept kk)
      replace OX := Lib.hid (OX.out.kept kk)
      replace RrA := Lib.hid (RrA.out.kept kk)
      replace RrC := Lib.hid (RrC.out.kept kk)
      replace AA := Lib.hid (AA.out.kept kk.of_no (fun _ _ x => x))
      replace KW := Lib.hid (KW.out.trans kk)
      clear kk
      have y1 : w8.cell? ⟨BC, 1, none⟩ = some (.int .i64 d.ep) := cell_blk HC.out 1 _ dv1
      have z1 := cell_blk HD.out 1 _ dv1
      have x0 := cell_blk HX.out 0 _ (wrC_0 x)
      have flt := HLT.out
      go_wp2_with (first
            | (refine wpList_load_bigG bigDev (by rfl) _ rfl BA 0 (devC d ta4 tc4 qa4 qc4 da4 dc4 la4 lc4) rfl (range_blk HA.out) rfl ?_)
            | (refine wpList_load_bigG bigDev (by rfl) _ rfl w.heap.size 0 (devC d ta tc qa qc da dc la lc) rfl (range_blk HD.out) rfl ?_))
      refine (dsame_ok _ _ d NoM NoM w8 ⟨_, _, _, _, _, _, _, _, rfl, RrA.out⟩ ⟨_, _, _, _, _, _, _, _, rfl, RR.out⟩ HB.out).mono ?_
      rintro e w9 ⟨rfl, kk⟩
      replace HD := Lib.hid (kk.blk HD.out (fun x => x))
      replace HX := Lib.hid (kk.blk HX.out (fun x => x))
      replace HA := Lib.hid (kk.blk HA.out (fun x => x))
      replace HBB := Lib.hid (kk.blk HBB.out (fun x => x))
      replace HC := Lib.hid (kk.blk HC.out (fun x => x))
      replace RR := Lib.hid (RR.out.kept kk)
      replace HB := Lib.hid (HB.out.kept kk)
      replace OX := Lib.hid (OX.out.kept kk)
      replace RrA := Lib.hid (RrA.out.kept kk)
      replace RrC := Lib.hid (RrC.out.kept kk)
      replace AA := Lib.hid (AA.out.kept kk.of_no (fun _ _ x => x))
      replace KW := Lib.hid (KW.out.trans kk)
      clear kk
      obtain ⟨lb, lo, hle, hlc⟩ := ak_at AA.out (k := 0) rfl
      subst hle
      have ya := hlc
      clear y1 z1 x0
      go_wp2_with fail
      go_ret
      exact ⟨rfl, KW.out⟩
theorem stays_3 (d : Dev) (x : Wr) (k : Int) (keep : Bool) (ta qa da la : Option Addr) (tc qc dc lc : Nat) (w : World) (h : DevR w NoM d ta tc qa qc da dc la lc) (hot : ∀ r ∈ d.table, OutR w r) (hoq : ∀ y ∈ d.queue, OutR w y.rule) (ht : d.table.length ≤ 9223372036854775807) (hq : d.queue.length ≤ 9223372036854775807) (hox : OutR w x.rule) (hlt : x.ep = d.ep) (kn : Nat) (y : Wr) (hkn : d.queue[kn]? = some y) (hry : rdyB d.queue kn = true) :
    Calls Try.prog 7 #[.agg (devC d ta tc qa qc da dc la lc), .agg (wrC x), .int .i64 kn, .bool keep] w fun e w' => e = .returned (.bool true) ∧ Kept NoM w w' := by
  have HLT := Lib.hid hlt
  have HKN := Lib.hid hkn
  have HRY := Lib.hid hry
  clear hlt hkn hry
  have HOX := Lib.hid (fun wx (k : Kept NoM w wx) => hox.kept k)
  clear hox
  have K0 := (((Kept.refl NoM w).alloc (.cells (devC d ta tc qa qc da dc la lc) 27)).alloc (.cells (wrC x) 41))
  have HD := Lib.hid (blk_old (blk_new w (.cells (devC d ta tc qa qc da dc la lc) 27)) (.cells (wrC x) 41))
  have HX := Lib.hid (blk_new' (w.alloc (.cells (devC d ta tc qa qc da dc la lc) 27)) (.cells (wrC x) 41) (w.heap.size + 1) (by simp))
  have KW := Lib.hid K0
  have RR := Lib.hid (h.kept K0.of_no)
  have OT := Lib.hid (fun wx (k : Kept NoM w wx) r hr => (hot r hr).kept k)
  have OQ := Lib.hid (fun wx (k : Kept NoM w wx) y hy => (hoq y hy).kept k)
  clear K0 h hot hoq
  go_enter Try.func7, Try.ntmps7
  go_wp2_with fail
  refine (sanity_ok _).mono ?_
  rintro e w1 ⟨rfl, kk⟩
  replace HD := Lib.hid (kk.blk HD.out (fun x => x))
  replace HX := Lib.hid (kk.blk HX.out (fun x => x))
  replace RR := Lib.hid (RR.out.kept kk)
  replace KW := Lib.hid (KW.out.trans kk)
  clear kk
  go_wp2_with (first
        | (refine wpList_load_big bigDev rfl _ rfl w.heap.size 0 (devC d ta tc qa qc da dc la lc) rfl (range_blk HD.out) rfl ?_))
  refine (right_ok d ta qa da la tc qc dc lc NoM w1 RR.out (OT.out _ KW.out) (OQ.out _ KW.out) ht hq).mono ?_
  rintro e w2 ⟨b1, rfl, hb1, kk⟩
  clear OT OQ
  replace HD := Lib.hid (kk.blk HD.out (fun x => x))
  replace HX := Lib.hid (kk.blk HX.out (fun x => x))
  replace RR := Lib.hid (RR.out.kept kk)
  replace KW := Lib.hid (KW.out.trans kk)
  clear kk
  cases b1 with
  | false =>
    go_wp2_with fail
    go_ret
    exact ⟨rfl, KW.out⟩
  | true =>
    obtain ⟨⟨hfew, hdb⟩, R⟩ := hb1 rfl
    have HB := Lib.hid hdb
    have RDD := Lib.hid R
    have FW : Hid (Few d) := Lib.hid ⟨by omega, by omega, by omega⟩
    have HFEW := Lib.hid hfew
    clear hb1 hdb R hfew
    go_wp2_with (first
          | (refine wpList_load_bigG bigWr (by rfl) _ rfl (w.heap.size + 1) 0 (wrC x) rfl (range_blk HX.out) rfl ?_))
    have ka := (Kept.refl NoM w2).alloc (.cells (wrC x) 41)
    replace HD := Lib.hid (ka.blk HD.out (fun x => x))
    replace HX := Lib.hid (ka.blk HX.out (fun x => x))
    replace RR := Lib.hid (RR.out.kept ka)
    replace HB := Lib.hid (HB.out.kept ka)
    replace KW := Lib.hid (KW.out.trans ka)
    refine (formedl_ok _ [x] NoM 1 _ (rd_one (blk_new w2 _) (fun x => x) rfl rfl) (by simp) (fun y hy => by rw [List.mem_singleton] at hy; subst hy; exact HOX.out _ KW.out)).mono ?_
    rintro e w3 ⟨b2, rfl, hb2, kk⟩
    have kx := ka.trans kk
    clear ka
    replace HD := Lib.hid (kk.blk HD.out (fun x => x))
    replace HX := Lib.hid (kk.blk HX.out (fun x => x))
    replace RR := Lib.hid (RR.out.kept kk)
    replace HB := Lib.hid (HB.out.kept kk)
    replace KW := Lib.hid (KW.out.trans kk)
    cases b2 with
    | false =>
      go_wp2_with fail
      go_ret
      exact ⟨rfl, KW.out⟩
    | true =>
      obtain ⟨⟨_, hox2⟩, hfx⟩ := hb2 rfl
      have FX := Lib.hid (hfx x (List.mem_singleton.2 rfl))
      have OX := Lib.hid ((hox2 x (List.mem_singleton.2 rfl)).kept kk)
      clear hb2 hox2 hfx kx kk HOX
      have RA := Lib.hid (RDD.out.recv FX.out)
      have EA := Lib.hid (recv_ep (d := d) (w := x))
      go_wp2_with (first
            | (refine wpList_load_big bigDev rfl _ rfl w.heap.size 0 (devC d ta tc qa qc da dc la lc) rfl (range_blk HD.out) rfl ?_)
            | (refine wpList_load_big bigWr rfl _ rfl (w.heap.size + 1) 0 (wrC x) rfl (range_blk HX.out) rfl ?_))
      refine (recv_ok _ d x NoM w3 ⟨_, _, _, _, _, _, _, _, rfl, RR.out⟩ noM_lt RDD.out.ql FW.out.dn (fun wx _ => by have := formed_ok x wx (by have := (formed_kind FX.out).1; omega) (by have := (formed_kind FX.out).1; omega); rw [FX.out] at this; exact this)).mono ?_
      rintro e w4 ⟨v7, av7, rfl, dd7, aa7, kk⟩
      obtain ⟨ta4, tc4, qa4, qc4, da4, dc4, la4, lc4, rfl, r7⟩ := dd7
      obtain ⟨aa4, ac4, ea7, _, _⟩ := aa7.shape
      have ea8 : av7 = .slice aa4 (recvA d x).length ac4 := ea7
      subst ea8
      clear ea7
      replace HD := Lib.hid (kk.blk HD.out (fun x => x))
      replace HX := Lib.hid (kk.blk HX.out (fun x => x))
      replace RR := Lib.hid (RR.out.kept kk)
      replace HB := Lib.hid (HB.out.kept kk)
      replace OX := Lib.hid (OX.out.kept kk)
      replace KW := Lib.hid (KW.out.trans kk)
      clear kk
      have kk := (Kept.refl NoM w4).alloc (.cells (devC (recvD d x) ta4 tc4 qa4 qc4 da4 dc4 la4 lc4) 27)
      replace HD := Lib.hid (kk.blk HD.out (fun x => x))
      replace HX := Lib.hid (kk.blk HX.out (fun x => x))
      replace RR := Lib.hid (RR.out.kept kk)
      replace HB := Lib.hid (HB.out.kept kk)
      replace OX := Lib.hid (OX.out.kept kk)
      replace KW := Lib.hid (KW.out.trans kk)
      have HA := Lib.hid (blk_new w4 (.cells (devC (recvD d x) ta4 tc4 qa4 qc4 da4 dc4 la4 lc4) 27))
      have RrA := Lib.hid (r7.kept kk)
      have AA := Lib.hid (aa7.kept kk.of_no (M := NoM) (fun _ _ x => x))
      clear kk r7 aa7
      go_wp2_with (first
            | (refine wpList_alloc_Z rfl 27 rfl _ (devZ _) ?_)
            | (refine wpList_store_bign (cs := devC (recvD d x) ta4 tc4 qa4 qc4 da4 dc4 la4 lc4) bigDev rfl _ _ rfl _ rfl rfl rfl rfl rfl (dev1 _ _ _ _ _ _ _ _ _) ?_)
            | (refine wpList_load_big bigDev rfl _ rfl w.heap.size 0 (devC d ta tc qa qc da dc la lc) rfl (range_blk HD.out) rfl ?_))
      generalize w4.heap.size = BA at *
      generalize w4.alloc (.cells (devC (recvD d x) ta4 tc4 qa4 qc4 da4 dc4 la4 lc4) 27) = uA at *
      refine (do_ok _ d kn y NoM uA ⟨_, _, _, _, _, _, _, _, rfl, RR.out⟩ noM_lt RDD.out FW.out HKN.out HRY.out).mono ?_
      rintro e w5 ⟨v7, av7, rfl, dd7, aa7, kk⟩
      obtain ⟨ta5, tc5, qa5, qc5, da5, dc5, la5, lc5, rfl, r7⟩ := dd7
      obtain ⟨aa5, ac5, ea7, _, _⟩ := aa7.shape
      have ea8 : av7 = .slice aa5 (doA d y).length ac5 := ea7
      subst ea8
      clear ea7
      replace HD := Lib.hid (kk.blk HD.out (fun x => x))
      replace HX := Lib.hid (kk.blk HX.out (fun x => x))
      replace HA := Lib.hid (kk.blk HA.out (fun x => x))
      replace RR := Lib.hid (RR.out.kept kk)
      replace HB := Lib.hid (HB.out.kept kk)
      replace OX := Lib.hid (OX.out.kept kk)
      replace RrA := Lib.hid (RrA.out.kept kk)
      replace AA := Lib.hid (AA.out.kept kk.of_no (fun _ _ x => x))
      replace KW := Lib.hid (KW.out.trans kk)
      clear kk
      have kk := (Kept.refl NoM w5).alloc (.cells (devC (doW d kn y) ta5 tc5 qa5 qc5 da5 dc5 la5 lc5) 27)
      replace HD := Lib.hid (kk.blk HD.out (fun x => x))
      replace HX := Lib.hid (kk.blk HX.out (fun x => x))
      replace HA := Lib.hid (kk.blk HA.out (fun x => x))
      replace RR := Lib.hid (RR.out.kept kk)
      replace HB := Lib.hid (HB.out.kept kk)
      replace OX := Lib.hid (OX.out.kept kk)
      replace RrA := Lib.hid (RrA.out.kept kk)
      replace AA := Lib.hid (AA.out.kept kk.of_no (fun _ _ x => x))
      replace KW := Lib.hid (KW.out.trans kk)
      have HB5 := Lib.hid (blk_new w5 (.cells (devC (doW d kn y) ta5 tc5 qa5 qc5 da5 dc5 la5 lc5) 27))
      have RrB5 := Lib.hid (r7.kept kk)
      have AB5 := Lib.hid (aa7.kept kk.of_no (M := NoM) (fun _ _ x => x))
      clear kk r7 aa7
      go_wp2_with (first
            | (refine wpList_alloc_Z rfl 27 rfl _ (devZ _) ?_)
            | (refine wpList_store_bign (cs := devC (doW d kn y) ta5 tc5 qa5 qc5 da5 dc5 la5 lc5) bigDev rfl _ _ rfl _ rfl rfl rfl rfl rfl (dev1 _ _ _ _ _ _ _ _ _) ?_)
            | (refine wpList_load_big bigDev rfl _ rfl w.heap.size 0 (devC d ta tc qa qc da dc la lc) rfl (range_blk HD.out) rfl ?_))
      generalize w5.heap.size = BB at *
      generalize w5.alloc (.cells (devC (doW d kn y) ta5 tc5 qa5 qc5 da5 dc5 la5 lc5) 27) = uB at *
      refine (reb_ok d ta qa da la tc qc dc lc NoM keep uB RR.out).mono ?_
      rintro e w6 ⟨v7, rfl, dd7, kk⟩
      obtain ⟨ta6, tc6, qa6, qc6, da6, dc6, la6, lc6, rfl, r7⟩ := dd7
      replace HD := Lib.hid (kk.blk HD.out (fun x => x))
      replace HX := Lib.hid (kk.blk HX.out (fun x => x))
      replace HA := Lib.hid (kk.blk HA.out (fun x => x))
      replace HB5 := Lib.hid (kk.blk HB5.out (fun x => x))
      replace RR := Lib.hid (RR.out.kept kk)
      replace HB := Lib.hid (HB.out.kept kk)
      replace OX := Lib.hid (OX.out.kept kk)
      replace RrA := Lib.hid (RrA.out.kept kk)
      replace RrB5 := Lib.hid (RrB5.out.kept kk)
      replace AA := Lib.hid (AA.out.kept kk.of_no (fun _ _ x => x))
      replace AB5 := Lib.hid (AB5.out.kept kk.of_no (fun _ _ x => x))
      replace KW := Lib.hid (KW.out.trans kk)
      clear kk
      have kk := (Kept.refl NoM w6).alloc (.cells (devC (rebD d keep) ta6 tc6 qa6 qc6 da6 dc6 la6 lc6) 27)
      replace HD := Lib.hid (kk.blk HD.out (fun x => x))
      replace HX := Lib.hid (kk.blk HX.out (fun x => x))
      replace HA := Lib.hid (kk.blk HA.out (fun x => x))
      replace HB5 := Lib.hid (kk.blk HB5.out (fun x => x))
      replace RR := Lib.hid (RR.out.kept kk)
      replace HB := Lib.hid (HB.out.kept kk)
      replace OX := Lib.hid (OX.out.kept kk)
      replace RrA := Lib.hid (RrA.out.kept kk)
      replace RrB5 := Lib.hid (RrB5.out.kept kk)
      replace AA := Lib.hid (AA.out.kept kk.of_no (fun _ _ x => x))
      replace AB5 := Lib.hid (AB5.out.kept kk.of_no (fun _ _ x => x))
      replace KW := Lib.hid (KW.out.trans kk)
      have HC := Lib.hid (blk_new w6 (.cells (devC (rebD d keep) ta6 tc6 qa6 qc6 da6 dc6 la6 lc6) 27))
      have RrC := Lib.hid (r7.kept kk)
      clear kk r7
      go_wp2_with (first
            | (refine wpList_alloc_Z rfl 27 rfl _ (devZ _) ?_)
            | (refine wpList_store_bign (cs := devC (rebD d keep) ta6 tc6 qa6 qc6 da6 dc6 la6 lc6) bigDev rfl _ _ rfl _ rfl rfl rfl rfl rfl (dev1 _ _ _ _ _ _ _ _ _) ?_)
            | (refine wpList_load_bigG bigDev (by rfl) _ rfl BA 0 (devC (recvD d x) ta4 tc4 qa4 qc4 da4 dc4 la4 lc4) rfl (range_blk HA.out) rfl ?_))
      generalize w6.heap.size = BC at *
      generalize w6.alloc (.cells (devC (rebD d keep) ta6 tc6 qa6 qc6 da6 dc6 la6 lc6) 27) = uC at *
      have hbA : DevB uC (recvD d x) := DevB.recv HB.out OX.out RDD.out
      refine (rcheck_ok (recvD d x) _ _ _ _ _ _ _ _ NoM uC RrA.out hbA).mono ?_
      rintro e w7 ⟨c7, rfl, hc7, kk⟩
      obtain rfl : c7 = 0 := hc7.2 RA.out
      clear hc7 hbA
      replace HD := Lib.hid (kk.blk HD.out (fun x => x))
      replace HX := Lib.hid (kk.blk HX.out (fun x => x))
      replace HA := Lib.hid (kk.blk HA.out (fun x => x))
      replace HB5 := Lib.hid (kk.blk HB5.out (fun x => x))
      replace HC := Lib.hid (kk.blk HC.out (fun x => x))
      replace RR := Lib.hid (RR.out.kept kk)
      replace HB := Lib.hid (HB.out.kept kk)
      replace OX := Lib.hid (OX.out.kept kk)
      replace RrA := Lib.hid (RrA.out.kept kk)
      replace RrB5 := Lib.hid (RrB5.out.kept kk)
      replace RrC := Lib.hid (RrC.out.kept kk)
      replace AA := Lib.hid (AA.out.kept kk.of_no (fun _ _ x => x))
      replace AB5 := Lib.hid (AB5.out.kept kk.of_no (fun _ _ x => x))
      replace KW := Lib.hid (KW.out.trans kk)
      clear kk
      have y1 := cell_blk HA.out 1 _ dv1
      have z1 := cell_blk HD.out 1 _ dv1
      have x0 := cell_blk HX.out 0 _ (wrC_0 x)
      have ye : (recvD d x).ep = d.ep := by rw [EA.out]; have := HLT.out; split <;> omega
      rw [ye] at y1
      clear ye
      have hxe : x.ep = d.ep := HLT.out
      rw [hxe] at x0
      clear hxe
      have x9 : (max d.ep d.ep : Int) = d.ep := by omega
      have g1 : ¬ d.ep < d.ep := by omega
      have g2 := g1
      have g3 : d.ep ≤ d.ep := by omega
      have g4 := g3
      go_wp2_with (first
            | (refine wpList_load_bigG bigDev (by rfl) _ rfl BC 0 (devC (rebD d keep) ta6 tc6 qa6 qc6 da6 dc6 la6 lc6) rfl (range_blk HC.out) rfl ?_))
      clear g1 g2 g3 g4
      have hbC : DevB w7 (rebD d keep) := DevB.reb HB.out keep
      refine (rcheck_ok (rebD d keep) _ _ _ _ _ _ _ _ NoM w7 RrC.out hbC).mono ?_
      rintro e w8 ⟨c8, rfl, hc8, kk⟩
      obtain rfl : c8 = 0 := hc8.2 (RDD.out.reb keep)
      clear hc8 hbC y1 z1 x0 x9
      replace HD := Lib.hid (kk.blk HD.out (fun x => x))
      replace HX := Lib.hid (kk.blk HX.out (fun x => x))
      replace HA := Lib.hid (kk.blk HA.out (fun x => x))
      replace HB5 := Lib.hid (kk.blk HB5.out (fun x => x))
      replace HC := Lib.hid (kk.blk HC.out (fun x => x))
      replace RR := Lib.hid (RR.out.kept kk)
      replace HB := Lib.hid (HB.out.kept kk)
      replace OX := Lib.hid (OX.out.kept kk)
      replace RrA := Lib.hid (RrA.out.kept kk)
      replace RrB5 := Lib.hid (RrB5.out.kept kk)
      replace RrC := Lib.hid (RrC.out.kept kk)
      replace AA := Lib.hid (AA.out.kept kk.of_no (fun _ _ x => x))
      replace AB5 := Lib.hid (AB5.out.kept kk.of_no (fun _ _ x => x))
      replace KW := Lib.hid (KW.out.trans kk)
      clear kk
      have y1 : w8.cell? ⟨BC, 1, none⟩ = some (.int .i64 d.ep) := cell_blk HC.out 1 _ dv1
      have z1 := cell_blk HD.out 1 _ dv1
      have x0 := cell_blk HX.out 0 _ (wrC_0 x)
      have flt : ¬ x.ep < d.ep := by have := HLT.out; omega
      have c0 := cell_blk HB5.out 0 _ dv0
      have c1 := cell_blk HB5.out 1 _ dv1
      have c2 := cell_blk HB5.out 2 _ dv2
      have c3 := cell_blk HB5.out 3 _ dv3
      have c4 := cell_blk HB5.out 4 _ dv4
      have c5 := cell_blk HB5.out 5 _ dv5
      have c6 := cell_blk HB5.out 6 _ dv6
      go_wp2_with fail
      clear c0 c1 c2 c3 c4 c5 c6
      have hbB : DevB w8 (doW d kn y) := DevB.doW HB.out FW.out HKN.out
      refine (rcheck_ok (doW d kn y) _ _ _ _ _ _ _ _ NoM w8 RrB5.out hbB).mono ?_
      rintro e w10 ⟨c10, rfl, hc10, kk⟩
      obtain rfl : c10 = 0 := hc10.2 (RDD.out.doW HKN.out)
      clear hc10 hbB
      replace HD := Lib.hid (kk.blk HD.out (fun x => x))
      replace HX := Lib.hid (kk.blk HX.out (fun x => x))
      replace HA := Lib.hid (kk.blk HA.out (fun x => x))
      replace HB5 := Lib.hid (kk.blk HB5.out (fun x => x))
      replace HC := Lib.hid (kk.blk HC.out (fun x => x))
      replace RR := Lib.hid (RR.out.kept kk)
      replace HB := Lib.hid (HB.out.kept kk)
      replace OX := Lib.hid (OX.out.kept kk)
      replace RrA := Lib.hid (RrA.out.kept kk)
      replace RrB5 := Lib.hid (RrB5.out.kept kk)
      replace RrC := Lib.hid (RrC.out.kept kk)
      replace AA := Lib.hid (AA.out.kept kk.of_no (fun _ _ x => x))
      replace AB5 := Lib.hid (AB5.out.kept kk.of_no (fun _ _ x => x))
      replace KW := Lib.hid (KW.out.trans kk)
      clear kk
      have y1 : w10.cell? ⟨BB, 1, none⟩ = some (.int .i64 d.ep) := cell_blk HB5.out 1 _ dv1
      have z1 := cell_blk HD.out 1 _ dv1
      have y3 := cell_blk HB5.out 3 _ dv3
      have z3 := cell_blk HD.out 3 _ dv3
      have hql : (doW d kn y).queue.length + 1 = d.queue.length := doW_len HKN.out
      have hwl : IntKind.i64.wrap ((d.queue.length : Int) - 1) = ((doW d kn y).queue.length : Int) := by rw [IntWalk.i64_in _ (by have := RDD.out.ql; omega)]; omega
      go_wp2_with fail
      go_ret
      exact ⟨rfl, KW.out⟩
theorem stays_4 (d : Dev) (x : Wr) (k : Int) (keep : Bool) (ta qa da la : Option Addr) (tc qc dc lc : Nat) (w : World) (h : DevR w NoM d ta tc qa qc da dc la lc) (hot : ∀ r ∈ d.table, OutR w r) (hoq : ∀ y ∈ d.queue, OutR w y.rule) (ht : d.table.length ≤ 9223372036854775807) (hq : d.queue.length ≤ 9223372036854775807) (hox : OutR w x.rule) (hlt : x.ep = d.ep) (hnr : hasI (rdyTo d.queue d.queue.length) k = false) :
    Calls Try.prog 7 #[.agg (devC d ta tc qa qc da dc la lc), .agg (wrC x), .int .i64 k, .bool keep] w fun e w' => e = .returned (.bool true) ∧ Kept NoM w w' := by
  have HLT := Lib.hid hlt
  have HNR := Lib.hid hnr
  clear hlt hnr
  have HOX := Lib.hid (fun wx (k : Kept NoM w wx) => hox.kept k)
  clear hox
  have K0 := (((Kept.refl NoM w).alloc (.cells (devC d ta tc qa qc da dc la lc) 27)).alloc (.cells (wrC x) 41))
  have HD := Lib.hid (blk_old (blk_new w (.cells (devC d ta tc qa qc da dc la lc) 27)) (.cells (wrC x) 41))
  have HX := Lib.hid (blk_new' (w.alloc (.cells (devC d ta tc qa qc da dc la lc) 27)) (.cells (wrC x) 41) (w.heap.size + 1) (by simp))
  have KW := Lib.hid K0
  have RR := Lib.hid (h.kept K0.of_no)
  have OT := Lib.hid (fun wx (k : Kept NoM w wx) r hr => (hot r hr).kept k)
  have OQ := Lib.hid (fun wx (k : Kept NoM w wx) y hy => (hoq y hy).kept k)
  clear K0 h hot hoq
  go_enter Try.func7, Try.ntmps7
  go_wp2_with fail
  refine (sanity_ok _).mono ?_
  rintro e w1 ⟨rfl, kk⟩
  replace HD := Lib.hid (kk.blk HD.out (fun x => x))
  replace HX := Lib.hid (kk.blk HX.out (fun x => x))
  replace RR := Lib.hid (RR.out.kept kk)
  replace KW := Lib.hid (KW.out.trans kk)
  clear kk
  go_wp2_with (first
        | (refine wpList_load_big bigDev rfl _ rfl w.heap.size 0 (devC d ta tc qa qc da dc la lc) rfl (range_blk HD.out) rfl ?_))
  refine (right_ok d ta qa da la tc qc dc lc NoM w1 RR.out (OT.out _ KW.out) (OQ.out _ KW.out) ht hq).mono ?_
  rintro e w2 ⟨b1, rfl, hb1, kk⟩
  clear OT OQ
  replace HD := Lib.hid (kk.blk HD.out (fun x => x))
  replace HX := Lib.hid (kk.blk HX.out (fun x => x))
  replace RR := Lib.hid (RR.out.kept kk)
  replace KW := Lib.hid (KW.out.trans kk)
  clear kk
  cases b1 with
  | false =>
    go_wp2_with fail
    go_ret
    exact ⟨rfl, KW.out⟩
  | true =>
    obtain ⟨⟨hfew, hdb⟩, R⟩ := hb1 rfl
    have HB := Lib.hid hdb
    have RDD := Lib.hid R
    have FW : Hid (Few d) := Lib.hid ⟨by omega, by omega, by omega⟩
    have HFEW := Lib.hid hfew
    clear hb1 hdb R hfew
    go_wp2_with (first
          | (refine wpList_load_bigG bigWr (by rfl) _ rfl (w.heap.size + 1) 0 (wrC x) rfl (range_blk HX.out) rfl ?_))
    have ka := (Kept.refl NoM w2).alloc (.cells (wrC x) 41)
    replace HD := Lib.hid (ka.blk HD.out (fun x => x))
    replace HX := Lib.hid (ka.blk HX.out (fun x => x))
    replace RR := Lib.hid (RR.out.kept ka)
    replace HB := Lib.hid (HB.out.kept ka)
    replace KW := Lib.hid (KW.out.trans ka)
    refine (formedl_ok _ [x] NoM 1 _ (rd_one (blk_new w2 _) (fun x => x) rfl rfl) (by simp) (fun y hy => by rw [List.mem_singleton] at hy; subst hy; exact HOX.out _ KW.out)).mono ?_
    rintro e w3 ⟨b2, rfl, hb2, kk⟩
    have kx := ka.trans kk
    clear ka
    replace HD := Lib.hid (kk.blk HD.out (fun x => x))
    replace HX := Lib.hid (kk.blk HX.out (fun x => x))
    replace RR := Lib.hid (RR.out.kept kk)
    replace HB := Lib.hid (HB.out.kept kk)
    replace KW := Lib.hid (KW.out.trans kk)
    cases b2 with
    | false =>
      go_wp2_with fail
      go_ret
      exact ⟨rfl, KW.out⟩
    | true =>
      obtain ⟨⟨_, hox2⟩, hfx⟩ := hb2 rfl
      have FX := Lib.hid (hfx x (List.mem_singleton.2 rfl))
      have OX := Lib.hid ((hox2 x (List.mem_singleton.2 rfl)).kept kk)
      clear hb2 hox2 hfx kx kk HOX
      have RA := Lib.hid (RDD.out.recv FX.out)
      have EA := Lib.hid (recv_ep (d := d) (w := x))
      go_wp2_with (first
            | (refine wpList_load_big bigDev rfl _ rfl w.heap.size 0 (devC d ta tc qa qc da dc la lc) rfl (range_blk HD.out) rfl ?_)
            | (refine wpList_load_big bigWr rfl _ rfl (w.heap.size + 1) 0 (wrC x) rfl (range_blk HX.out) rfl ?_))
      refine (recv_ok _ d x NoM w3 ⟨_, _, _, _, _, _, _, _, rfl, RR.out⟩ noM_lt RDD.out.ql FW.out.dn (fun wx _ => by have := formed_ok x wx (by have := (formed_kind FX.out).1; omega) (by have := (formed_kind FX.out).1; omega); rw [FX.out] at this; exact this)).mono ?_
      rintro e w4 ⟨v7, av7, rfl, dd7, aa7, kk⟩
      obtain ⟨ta4, tc4, qa4, qc4, da4, dc4, la4, lc4, rfl, r7⟩ := dd7
      obtain ⟨aa4, ac4, ea7, _, _⟩ := aa7.shape
      have ea8 : av7 = .slice aa4 (recvA d x).length ac4 := ea7
      subst ea8
      clear ea7
      replace HD := Lib.hid (kk.blk HD.out (fun x => x))
      replace HX := Lib.hid (kk.blk HX.out (fun x => x))
      replace RR := Lib.hid (RR.out.kept kk)
      replace HB := Lib.hid (HB.out.kept kk)
      replace OX := Lib.hid (OX.out.kept kk)
      replace KW := Lib.hid (KW.out.trans kk)
      clear kk
      have kk := (Kept.refl NoM w4).alloc (.cells (devC (recvD d x) ta4 tc4 qa4 qc4 da4 dc4 la4 lc4) 27)
      replace HD := Lib.hid (kk.blk HD.out (fun x => x))
      replace HX := Lib.hid (kk.blk HX.out (fun x => x))
      replace RR := Lib.hid (RR.out.kept kk)
      replace HB := Lib.hid (HB.out.kept kk)
      replace OX := Lib.hid (OX.out.kept kk)
      replace KW := Lib.hid (KW.out.trans kk)
      have HA := Lib.hid (blk_new w4 (.cells (devC (recvD d x) ta4 tc4 qa4 qc4 da4 dc4 la4 lc4) 27))
      have RrA := Lib.hid (r7.kept kk)
      have AA := Lib.hid (aa7.kept kk.of_no (M := NoM) (fun _ _ x => x))
      clear kk r7 aa7
      go_wp2_with (first
            | (refine wpList_alloc_Z rfl 27 rfl _ (devZ _) ?_)
            | (refine wpList_store_bign (cs := devC (recvD d x) ta4 tc4 qa4 qc4 da4 dc4 la4 lc4) bigDev rfl _ _ rfl _ rfl rfl rfl rfl rfl (dev1 _ _ _ _ _ _ _ _ _) ?_)
            | (refine wpList_load_big bigDev rfl _ rfl w.heap.size 0 (devC d ta tc qa qc da dc la lc) rfl (range_blk HD.out) rfl ?_))
      generalize w4.heap.size = BA at *
      generalize w4.alloc (.cells (devC (recvD d x) ta4 tc4 qa4 qc4 da4 dc4 la4 lc4) 27) = uA at *
      refine (do_bad d k ta qa da la tc qc dc lc NoM uA RR.out (by have := RDD.out.ql; omega) (fun y hy => by have := formed_pri (RDD.out.q y hy).1; omega) HNR.out).mono ?_
      rintro e w5 ⟨rfl, kk⟩
      replace HD := Lib.hid (kk.blk HD.out (fun x => x))
      replace HX := Lib.hid (kk.blk HX.out (fun x => x))
      replace HA := Lib.hid (kk.blk HA.out (fun x => x))
      replace RR := Lib.hid (RR.out.kept kk)
      replace HB := Lib.hid (HB.out.kept kk)
      replace OX := Lib.hid (OX.out.kept kk)
      replace RrA := Lib.hid (RrA.out.kept kk)
      replace AA := Lib.hid (AA.out.kept kk.of_no (fun _ _ x => x))
      replace KW := Lib.hid (KW.out.trans kk)
      clear kk
      have kk := (Kept.refl NoM w5).alloc (.cells devZC 27)
      replace HD := Lib.hid (kk.blk HD.out (fun x => x))
      replace HX := Lib.hid (kk.blk HX.out (fun x => x))
      replace HA := Lib.hid (kk.blk HA.out (fun x => x))
      replace RR := Lib.hid (RR.out.kept kk)
      replace HB := Lib.hid (HB.out.kept kk)
      replace OX := Lib.hid (OX.out.kept kk)
      replace RrA := Lib.hid (RrA.out.kept kk)
      replace AA := Lib.hid (AA.out.kept kk.of_no (fun _ _ x => x))
      replace KW := Lib.hid (KW.out.trans kk)
      have HBB := Lib.hid (blk_new w5 (.cells devZC 27))
      clear kk
      go_wp2_with (first
            | (refine wpList_alloc_Z rfl 27 rfl _ (devZ _) ?_)
            | (refine wpList_store_bign (cs := devZC) bigDev rfl _ _ rfl _ rfl rfl rfl rfl rfl (dev1 _ _ _ _ _ _ _ _ _) ?_)
            | (refine wpList_load_big bigDev rfl _ rfl w.heap.size 0 (devC d ta tc qa qc da dc la lc) rfl (range_blk HD.out) rfl ?_))
      generalize w5.heap.size = BB at *
      generalize w5.alloc (.cells devZC 27) = uB at *
      refine (reb_ok d ta qa da la tc qc dc lc NoM keep uB RR.out).mono ?_
      rintro e w6 ⟨v7, rfl, dd7, kk⟩
      obtain ⟨ta6, tc6, qa6, qc6, da6, dc6, la6, lc6, rfl, r7⟩ := dd7
      replace HD := Lib.hid (kk.blk HD.out (fun x => x))
      replace HX := Lib.hid (kk.blk HX.out (fun x => x))
      replace HA := Lib.hid (kk.blk HA.out (fun x => x))
      replace HBB := Lib.hid (kk.blk HBB.out (fun x => x))
      replace RR := Lib.hid (RR.out.kept kk)
      replace HB := Lib.hid (HB.out.kept kk)
      replace OX := Lib.hid (OX.out.kept kk)
      replace RrA := Lib.hid (RrA.out.kept kk)
      replace AA := Lib.hid (AA.out.kept kk.of_no (fun _ _ x => x))
      replace KW := Lib.hid (KW.out.trans kk)
      clear kk
      have kk := (Kept.refl NoM w6).alloc (.cells (devC (rebD d keep) ta6 tc6 qa6 qc6 da6 dc6 la6 lc6) 27)
      replace HD := Lib.hid (kk.blk HD.out (fun x => x))
      replace HX := Lib.hid (kk.blk HX.out (fun x => x))
      replace HA := Lib.hid (kk.blk HA.out (fun x => x))
      replace HBB := Lib.hid (kk.blk HBB.out (fun x => x))
      replace RR := Lib.hid (RR.out.kept kk)
      replace HB := Lib.hid (HB.out.kept kk)
      replace OX := Lib.hid (OX.out.kept kk)
      replace RrA := Lib.hid (RrA.out.kept kk)
      replace AA := Lib.hid (AA.out.kept kk.of_no (fun _ _ x => x))
      replace KW := Lib.hid (KW.out.trans kk)
      have HC := Lib.hid (blk_new w6 (.cells (devC (rebD d keep) ta6 tc6 qa6 qc6 da6 dc6 la6 lc6) 27))
      have RrC := Lib.hid (r7.kept kk)
      clear kk r7
      go_wp2_with (first
            | (refine wpList_alloc_Z rfl 27 rfl _ (devZ _) ?_)
            | (refine wpList_store_bign (cs := devC (rebD d keep) ta6 tc6 qa6 qc6 da6 dc6 la6 lc6) bigDev rfl _ _ rfl _ rfl rfl rfl rfl rfl (dev1 _ _ _ _ _ _ _ _ _) ?_)
            | (refine wpList_load_bigG bigDev (by rfl) _ rfl BA 0 (devC (recvD d x) ta4 tc4 qa4 qc4 da4 dc4 la4 lc4) rfl (range_blk HA.out) rfl ?_))
      generalize w6.heap.size = BC at *
      generalize w6.alloc (.cells (devC (rebD d keep) ta6 tc6 qa6 qc6 da6 dc6 la6 lc6) 27) = uC at *
      have hbA : DevB uC (recvD d x) := DevB.recv HB.out OX.out RDD.out
      refine (rcheck_ok (recvD d x) _ _ _ _ _ _ _ _ NoM uC RrA.out hbA).mono ?_
      rintro e w7 ⟨c7, rfl, hc7, kk⟩
      obtain rfl : c7 = 0 := hc7.2 RA.out
      clear hc7 hbA
      replace HD := Lib.hid (kk.blk HD.out (fun x => x))
      replace HX := Lib.hid (kk.blk HX.out (fun x => x))
      replace HA := Lib.hid (kk.blk HA.out (fun x => x))
      replace HBB := Lib.hid (kk.blk HBB.out (fun x => x))
      replace HC := Lib.hid (kk.blk HC.out (fun x => x))
      replace RR := Lib.hid (RR.out.kept kk)
      replace HB := Lib.hid (HB.out.kept kk)
      replace OX := Lib.hid (OX.out.kept kk)
      replace RrA := Lib.hid (RrA.out.kept kk)
      replace RrC := Lib.hid (RrC.out.kept kk)
      replace AA := Lib.hid (AA.out.kept kk.of_no (fun _ _ x => x))
      replace KW := Lib.hid (KW.out.trans kk)
      clear kk
      have y1 := cell_blk HA.out 1 _ dv1
      have z1 := cell_blk HD.out 1 _ dv1
      have x0 := cell_blk HX.out 0 _ (wrC_0 x)
      have ye : (recvD d x).ep = d.ep := by rw [EA.out]; have := HLT.out; split <;> omega
      rw [ye] at y1
      clear ye
      have hxe : x.ep = d.ep := HLT.out
      rw [hxe] at x0
      clear hxe
      have x9 : (max d.ep d.ep : Int) = d.ep := by omega
      have g1 : ¬ d.ep < d.ep := by omega
      have g2 := g1
      have g3 : d.ep ≤ d.ep := by omega
      have g4 := g3
      go_wp2_with (first
            | (refine wpList_load_bigG bigDev (by rfl) _ rfl BC 0 (devC (rebD d keep) ta6 tc6 qa6 qc6 da6 dc6 la6 lc6) rfl (range_blk HC.out) rfl ?_))
      clear g1 g2 g3 g4
      have hbC : DevB w7 (rebD d keep) := DevB.reb HB.out keep
      refine (rcheck_ok (rebD d keep) _ _ _ _ _ _ _ _ NoM w7 RrC.out hbC).mono ?_
      rintro e w8 ⟨c8, rfl, hc8, kk⟩
      obtain rfl : c8 = 0 := hc8.2 (RDD.out.reb keep)
      clear hc8 hbC y1 z1 x0 x9
      replace HD := Lib.hid (kk.blk HD.out (fun x => x))
      replace HX := Lib.hid (kk.blk HX.out (fun x => x))
      replace HA := Lib.hid (kk.blk HA.out (fun x => x))
      replace HBB := Lib.hid (kk.blk HBB.out (fun x => x))
      replace HC := Lib.hid (kk.blk HC.out (fun x => x))
      replace RR := Lib.hid (RR.out.kept kk)
      replace HB := Lib.hid (HB.out.kept kk)
      replace OX := Lib.hid (OX.out.kept kk)
      replace RrA := Lib.hid (RrA.out.kept kk)
      replace RrC := Lib.hid (RrC.out.kept kk)
      replace AA := Lib.hid (AA.out.kept kk.of_no (fun _ _ x => x))
      replace KW := Lib.hid (KW.out.trans kk)
      clear kk
      have y1 : w8.cell? ⟨BC, 1, none⟩ = some (.int .i64 d.ep) := cell_blk HC.out 1 _ dv1
      have z1 := cell_blk HD.out 1 _ dv1
      have x0 := cell_blk HX.out 0 _ (wrC_0 x)
      have flt : ¬ x.ep < d.ep := by have := HLT.out; omega
      go_wp2_with fail
      go_ret
      exact ⟨rfl, KW.out⟩
theorem stays_5 (d : Dev) (x : Wr) (k : Int) (keep : Bool) (ta qa da la : Option Addr) (tc qc dc lc : Nat) (w : World) (h : DevR w NoM d ta tc qa qc da dc la lc) (hot : ∀ r ∈ d.table, OutR w r) (hoq : ∀ y ∈ d.queue, OutR w y.rule) (ht : d.table.length ≤ 9223372036854775807) (hq : d.queue.length ≤ 9223372036854775807) (hox : OutR w x.rule) (hlt : d.ep < x.ep) (kn : Nat) (y : Wr) (hkn : d.queue[kn]? = some y) (hry : rdyB d.queue kn = true) :
    Calls Try.prog 7 #[.agg (devC d ta tc qa qc da dc la lc), .agg (wrC x), .int .i64 kn, .bool keep] w fun e w' => e = .returned (.bool true) ∧ Kept NoM w w' := by
  have HLT := Lib.hid hlt
  have HKN := Lib.hid hkn
  have HRY := Lib.hid hry
  clear hlt hkn hry
  have HOX := Lib.hid (fun wx (k : Kept NoM w wx) => hox.kept k)
  clear hox
  have K0 := (((Kept.refl NoM w).alloc (.cells (devC d ta tc qa qc da dc la lc) 27)).alloc (.cells (wrC x) 41))
  have HD := Lib.hid (blk_old (blk_new w (.cells (devC d ta tc qa qc da dc la lc) 27)) (.cells (wrC x) 41))
  have HX := Lib.hid (blk_new' (w.alloc (.cells (devC d ta tc qa qc da dc la lc) 27)) (.cells (wrC x) 41) (w.heap.size + 1) (by simp))
  have KW := Lib.hid K0
  have RR := Lib.hid (h.kept K0.of_no)
  have OT := Lib.hid (fun wx (k : Kept NoM w wx) r hr => (hot r hr).kept k)
  have OQ := Lib.hid (fun wx (k : Kept NoM w wx) y hy => (hoq y hy).kept k)
  clear K0 h hot hoq
  go_enter Try.func7, Try.ntmps7
  go_wp2_with fail
  refine (sanity_ok _).mono ?_
  rintro e w1 ⟨rfl, kk⟩
  replace HD := Lib.hid (kk.blk HD.out (fun x => x))
  replace HX := Lib.hid (kk.blk HX.out (fun x => x))
  replace RR := Lib.hid (RR.out.kept kk)
  replace KW := Lib.hid (KW.out.trans kk)
  clear kk
  go_wp2_with (first
        | (refine wpList_load_big bigDev rfl _ rfl w.heap.size 0 (devC d ta tc qa qc da dc la lc) rfl (range_blk HD.out) rfl ?_))
  refine (right_ok d ta qa da la tc qc dc lc NoM w1 RR.out (OT.out _ KW.out) (OQ.out _ KW.out) ht hq).mono ?_
  rintro e w2 ⟨b1, rfl, hb1, kk⟩
  clear OT OQ
  replace HD := Lib.hid (kk.blk HD.out (fun x => x))
  replace HX := Lib.hid (kk.blk HX.out (fun x => x))
  replace RR := Lib.hid (RR.out.kept kk)
  replace KW := Lib.hid (KW.out.trans kk)
  clear kk
  cases b1 with
  | false =>
    go_wp2_with fail
    go_ret
    exact ⟨rfl, KW.out⟩
  | true =>
    obtain ⟨⟨hfew, hdb⟩, R⟩ := hb1 rfl
    have HB := Lib.hid hdb
    have RDD := Lib.hid R
    have FW : Hid (Few d) := Lib.hid ⟨by omega, by omega, by omega⟩
    have HFEW := Lib.hid hfew
    clear hb1 hdb R hfew
    go_wp2_with (first
          | (refine wpList_load_bigG bigWr (by rfl) _ rfl (w.heap.size + 1) 0 (wrC x) rfl (range_blk HX.out) rfl ?_))
    have ka := (Kept.refl NoM w2).alloc (.cells (wrC x) 41)
    replace HD := Lib.hid (ka.blk HD.out (fun x => x))
    replace HX := Lib.hid (ka.blk HX.out (fun x => x))
    replace RR := Lib.hid (RR.out.kept ka)
    replace HB := Lib.hid (HB.out.kept ka)
    replace KW := Lib.hid (KW.out.trans ka)
    refine (formedl_ok _ [x] NoM 1 _ (rd_one (blk_new w2 _) (fun x => x) rfl rfl) (by simp) (fun y hy => by rw [List.mem_singleton] at hy; subst hy; exact HOX.out _ KW.out)).mono ?_
    rintro e w3 ⟨b2, rfl, hb2, kk⟩
    have kx := ka.trans kk
    clear ka
    replace HD := Lib.hid (kk.blk HD.out (fun x => x))
    replace HX := Lib.hid (kk.blk HX.out (fun x => x))
    replace RR := Lib.hid (RR.out.kept kk)
    replace HB := Lib.hid (HB.out.kept kk)
    replace KW := Lib.hid (KW.out.trans kk)
    cases b2 with
    | false =>
      go_wp2_with fail
      go_ret
      exact ⟨rfl, KW.out⟩
    | true =>
      obtain ⟨⟨_, hox2⟩, hfx⟩ := hb2 rfl
      have FX := Lib.hid (hfx x (List.mem_singleton.2 rfl))
      have OX := Lib.hid ((hox2 x (List.mem_singleton.2 rfl)).kept kk)
      clear hb2 hox2 hfx kx kk HOX
      have RA := Lib.hid (RDD.out.recv FX.out)
      have EA := Lib.hid (recv_ep (d := d) (w := x))
      go_wp2_with (first
            | (refine wpList_load_big bigDev rfl _ rfl w.heap.size 0 (devC d ta tc qa qc da dc la lc) rfl (range_blk HD.out) rfl ?_)
            | (refine wpList_load_big bigWr rfl _ rfl (w.heap.size + 1) 0 (wrC x) rfl (range_blk HX.out) rfl ?_))
      refine (recv_ok _ d x NoM w3 ⟨_, _, _, _, _, _, _, _, rfl, RR.out⟩ noM_lt RDD.out.ql FW.out.dn (fun wx _ => by have := formed_ok x wx (by have := (formed_kind FX.out).1; omega) (by have := (formed_kind FX.out).1; omega); rw [FX.out] at this; exact this)).mono ?_
      rintro e w4 ⟨v7, av7, rfl, dd7, aa7, kk⟩
      obtain ⟨ta4, tc4, qa4, qc4, da4, dc4, la4, lc4, rfl, r7⟩ := dd7
      obtain ⟨aa4, ac4, ea7, _, _⟩ := aa7.shape
      have ea8 : av7 = .slice aa4 (recvA d x).length ac4 := ea7
      subst ea8
      clear ea7
      replace HD := Lib.hid (kk.blk HD.out (fun x => x))
      replace HX := Lib.hid (kk.blk HX.out (fun x => x))
      replace RR := Lib.hid (RR.out.kept kk)
      replace HB := Lib.hid (HB.out.kept kk)
      replace OX := Lib.hid (OX.out.kept kk)
      replace KW := Lib.hid (KW.out.trans kk)
      clear kk
      have kk := (Kept.refl NoM w4).alloc (.cells (devC (recvD d x) ta4 tc4 qa4 qc4 da4 dc4 la4 lc4) 27)
      replace HD := Lib.hid (kk.blk HD.out (fun x => x))
      replace HX := Lib.hid (kk.blk HX.out (fun x => x))
      replace RR := Lib.hid (RR.out.kept kk)
      replace HB := Lib.hid (HB.out.kept kk)
      replace OX := Lib.hid (OX.out.kept kk)
      replace KW := Lib.hid (KW.out.trans kk)
      have HA := Lib.hid (blk_new w4 (.cells (devC (recvD d x) ta4 tc4 qa4 qc4 da4 dc4 la4 lc4) 27))
      have RrA := Lib.hid (r7.kept kk)
      have AA := Lib.hid (aa7.kept kk.of_no (M := NoM) (fun _ _ x => x))
      clear kk r7 aa7
      go_wp2_with (first
            | (refine wpList_alloc_Z rfl 27 rfl _ (devZ _) ?_)
            | (refine wpList_store_bign (cs := devC (recvD d x) ta4 tc4 qa4 qc4 da4 dc4 la4 lc4) bigDev rfl _ _ rfl _ rfl rfl rfl rfl rfl (dev1 _ _ _ _ _ _ _ _ _) ?_)
            | (refine wpList_load_big bigDev rfl _ rfl w.heap.size 0 (devC d ta tc qa qc da dc la lc) rfl (range_blk HD.out) rfl ?_))
      generalize w4.heap.size = BA at *
      generalize w4.alloc (.cells (devC (recvD d x) ta4 tc4 qa4 qc4 da4 dc4 la4 lc4) 27) = uA at *
      refine (do_ok _ d kn y NoM uA ⟨_, _, _, _, _, _, _, _, rfl, RR.out⟩ noM_lt RDD.out FW.out HKN.out HRY.out).mono ?_
      rintro e w5 ⟨v7, av7, rfl, dd7, aa7, kk⟩
      obtain ⟨ta5, tc5, qa5, qc5, da5, dc5, la5, lc5, rfl, r7⟩ := dd7
      obtain ⟨aa5, ac5, ea7, _, _⟩ := aa7.shape
      have ea8 : av7 = .slice aa5 (doA d y).length ac5 := ea7
      subst ea8
      clear ea7
      replace HD := Lib.hid (kk.blk HD.out (fun x => x))
      replace HX := Lib.hid (kk.blk HX.out (fun x => x))
      replace HA := Lib.hid (kk.blk HA.out (fun x => x))
      replace RR := Lib.hid (RR.out.kept kk)
      replace HB := Lib.hid (HB.out.kept kk)
      replace OX := Lib.hid (OX.out.kept kk)
      replace RrA := Lib.hid (RrA.out.kept kk)
      replace AA := Lib.hid (AA.out.kept kk.of_no (fun _ _ x => x))
      replace KW := Lib.hid (KW.out.trans kk)
      clear kk
      have kk := (Kept.refl NoM w5).alloc (.cells (devC (doW d kn y) ta5 tc5 qa5 qc5 da5 dc5 la5 lc5) 27)
      replace HD := Lib.hid (kk.blk HD.out (fun x => x))
      replace HX := Lib.hid (kk.blk HX.out (fun x => x))
      replace HA := Lib.hid (kk.blk HA.out (fun x => x))
      replace RR := Lib.hid (RR.out.kept kk)
      replace HB := Lib.hid (HB.out.kept kk)
      replace OX := Lib.hid (OX.out.kept kk)
      replace RrA := Lib.hid (RrA.out.kept kk)
      replace AA := Lib.hid (AA.out.kept kk.of_no (fun _ _ x => x))
      replace KW := Lib.hid (KW.out.trans kk)
      have HB5 := Lib.hid (blk_new w5 (.cells (devC (doW d kn y) ta5 tc5 qa5 qc5 da5 dc5 la5 lc5) 27))
      have RrB5 := Lib.hid (r7.kept kk)
      have AB5 := Lib.hid (aa7.kept kk.of_no (M := NoM) (fun _ _ x => x))
      clear kk r7 aa7
      go_wp2_with (first
            | (refine wpList_alloc_Z rfl 27 rfl _ (devZ _) ?_)
            | (refine wpList_store_bign (cs := devC (doW d kn y) ta5 tc5 qa5 qc5 da5 dc5 la5 lc5) bigDev rfl _ _ rfl _ rfl rfl rfl rfl rfl (dev1 _ _ _ _ _ _ _ _ _) ?_)
            | (refine wpList_load_big bigDev rfl _ rfl w.heap.size 0 (devC d ta tc qa qc da dc la lc) rfl (range_blk HD.out) rfl ?_))
      generalize w5.heap.size = BB at *
      generalize w5.alloc (.cells (devC (doW d kn y) ta5 tc5 qa5 qc5 da5 dc5 la5 lc5) 27) = uB at *
      refine (reb_ok d ta qa da la tc qc dc lc NoM keep uB RR.out).mono ?_
      rintro e w6 ⟨v7, rfl, dd7, kk⟩
      obtain ⟨ta6, tc6, qa6, qc6, da6, dc6, la6, lc6, rfl, r7⟩ := dd7
      replace HD := Lib.hid (kk.blk HD.out (fun x => x))
      replace HX := Lib.hid (kk.blk HX.out (fun x => x))
      replace HA := Lib.hid (kk.blk HA.out (fun x => x))
      replace HB5 := Lib.hid (kk.blk HB5.out (fun x => x))
      replace RR := Lib.hid (RR.out.kept kk)
      replace HB := Lib.hid (HB.out.kept kk)
      replace OX := Lib.hid (OX.out.kept kk)
      replace RrA := Lib.hid (RrA.out.kept kk)
      replace RrB5 := Lib.hid (RrB5.out.kept kk)
      replace AA := Lib.hid (AA.out.kept kk.of_no (fun _ _ x => x))
      replace AB5 := Lib.hid (AB5.out.kept kk.of_no (fun _ _ x => x))
      replace KW := Lib.hid (KW.out.trans kk)
      clear kk
      have kk := (Kept.refl NoM w6).alloc (.cells (devC (rebD d keep) ta6 tc6 qa6 qc6 da6 dc6 la6 lc6) 27)
      replace HD := Lib.hid (kk.blk HD.out (fun x => x))
      replace HX := Lib.hid (kk.blk HX.out (fun x => x))
      replace HA := Lib.hid (kk.blk HA.out (fun x => x))
      replace HB5 := Lib.hid (kk.blk HB5.out (fun x => x))
      replace RR := Lib.hid (RR.out.kept kk)
      replace HB := Lib.hid (HB.out.kept kk)
      replace OX := Lib.hid (OX.out.kept kk)
      replace RrA := Lib.hid (RrA.out.kept kk)
      replace RrB5 := Lib.hid (RrB5.out.kept kk)
      replace AA := Lib.hid (AA.out.kept kk.of_no (fun _ _ x => x))
      replace AB5 := Lib.hid (AB5.out.kept kk.of_no (fun _ _ x => x))
      replace KW := Lib.hid (KW.out.trans kk)
      have HC := Lib.hid (blk_new w6 (.cells (devC (rebD d keep) ta6 tc6 qa6 qc6 da6 dc6 la6 lc6) 27))
      have RrC := Lib.hid (r7.kept kk)
      clear kk r7
      go_wp2_with (first
            | (refine wpList_alloc_Z rfl 27 rfl _ (devZ _) ?_)
            | (refine wpList_store_bign (cs := devC (rebD d keep) ta6 tc6 qa6 qc6 da6 dc6 la6 lc6) bigDev rfl _ _ rfl _ rfl rfl rfl rfl rfl (dev1 _ _ _ _ _ _ _ _ _) ?_)
            | (refine wpList_load_bigG bigDev (by rfl) _ rfl BA 0 (devC (recvD d x) ta4 tc4 qa4 qc4 da4 dc4 la4 lc4) rfl (range_blk HA.out) rfl ?_))
      generalize w6.heap.size = BC at *
      generalize w6.alloc (.cells (devC (rebD d keep) ta6 tc6 qa6 qc6 da6 dc6 la6 lc6) 27) = uC at *
      have hbA : DevB uC (recvD d x) := DevB.recv HB.out OX.out RDD.out
      refine (rcheck_ok (recvD d x) _ _ _ _ _ _ _ _ NoM uC RrA.out hbA).mono ?_
      rintro e w7 ⟨c7, rfl, hc7, kk⟩
      obtain rfl : c7 = 0 := hc7.2 RA.out
      clear hc7 hbA
      replace HD := Lib.hid (kk.blk HD.out (fun x => x))
      replace HX := Lib.hid (kk.blk HX.out (fun x => x))
      replace HA := Lib.hid (kk.blk HA.out (fun x => x))
      replace HB5 := Lib.hid (kk.blk HB5.out (fun x => x))
      replace HC := Lib.hid (kk.blk HC.out (fun x => x))
      replace RR := Lib.hid (RR.out.kept kk)
      replace HB := Lib.hid (HB.out.kept kk)
      replace OX := Lib.hid (OX.out.kept kk)
      replace RrA := Lib.hid (RrA.out.kept kk)
      replace RrB5 := Lib.hid (RrB5.out.kept kk)
      replace RrC := Lib.hid (RrC.out.kept kk)
      replace AA := Lib.hid (AA.out.kept kk.of_no (fun _ _ x => x))
      replace AB5 := Lib.hid (AB5.out.kept kk.of_no (fun _ _ x => x))
      replace KW := Lib.hid (KW.out.trans kk)
      clear kk
      have y1 := cell_blk HA.out 1 _ dv1
      have z1 := cell_blk HD.out 1 _ dv1
      have x0 := cell_blk HX.out 0 _ (wrC_0 x)
      have ye : (recvD d x).ep = x.ep := by rw [EA.out]; have := HLT.out; split <;> omega
      rw [ye] at y1
      clear ye
      have x9 : (max d.ep x.ep : Int) = x.ep := by have := HLT.out; omega
      have g1 : d.ep < x.ep := by have := HLT.out; omega
      have g2 : ¬ x.ep < d.ep := by have := HLT.out; omega
      have g3 : d.ep ≤ x.ep := by have := HLT.out; omega
      have g4 : ¬ x.ep ≤ d.ep := by have := HLT.out; omega
      go_wp2_with (first
            | (refine wpList_load_bigG bigDev (by rfl) _ rfl BC 0 (devC (rebD d keep) ta6 tc6 qa6 qc6 da6 dc6 la6 lc6) rfl (range_blk HC.out) rfl ?_))
      clear g1 g2 g3 g4
      have hbC : DevB w7 (rebD d keep) := DevB.reb HB.out keep
      refine (rcheck_ok (rebD d keep) _ _ _ _ _ _ _ _ NoM w7 RrC.out hbC).mono ?_
      rintro e w8 ⟨c8, rfl, hc8, kk⟩
      obtain rfl : c8 = 0 := hc8.2 (RDD.out.reb keep)
      clear hc8 hbC y1 z1 x0 x9
      replace HD := Lib.hid (kk.blk HD.out (fun x => x))
      replace HX := Lib.hid (kk.blk HX.out (fun x => x))
      replace HA := Lib.hid (kk.blk HA.out (fun x => x))
      replace HB5 := Lib.hid (kk.blk HB5.out (fun x => x))
      replace HC := Lib.hid (kk.blk HC.out (fun x => x))
      replace RR := Lib.hid (RR.out.kept kk)
      replace HB := Lib.hid (HB.out.kept kk)
      replace OX := Lib.hid (OX.out.kept kk)
      replace RrA := Lib.hid (RrA.out.kept kk)
      replace RrB5 := Lib.hid (RrB5.out.kept kk)
      replace RrC := Lib.hid (RrC.out.kept kk)
      replace AA := Lib.hid (AA.out.kept kk.of_no (fun _ _ x => x))
      replace AB5 := Lib.hid (AB5.out.kept kk.of_no (fun _ _ x => x))
      replace KW := Lib.hid (KW.out.trans kk)
      clear kk
      have y1 : w8.cell? ⟨BC, 1, none⟩ = some (.int .i64 d.ep) := cell_blk HC.out 1 _ dv1
      have z1 := cell_blk HD.out 1 _ dv1
      have x0 := cell_blk HX.out 0 _ (wrC_0 x)
      have flt : ¬ x.ep < d.ep := by have := HLT.out; omega
      have c0 := cell_blk HB5.out 0 _ dv0
      have c1 := cell_blk HB5.out 1 _ dv1
      have c2 := cell_blk HB5.out 2 _ dv2
      have c3 := cell_blk HB5.out 3 _ dv3
      have c4 := cell_blk HB5.out 4 _ dv4
      have c5 := cell_blk HB5.out 5 _ dv5
      have c6 := cell_blk HB5.out 6 _ dv6
      go_wp2_with fail
      clear c0 c1 c2 c3 c4 c5 c6
      have hbB : DevB w8 (doW d kn y) := DevB.doW HB.out FW.out HKN.out
      refine (rcheck_ok (doW d kn y) _ _ _ _ _ _ _ _ NoM w8 RrB5.out hbB).mono ?_
      rintro e w10 ⟨c10, rfl, hc10, kk⟩
      obtain rfl : c10 = 0 := hc10.2 (RDD.out.doW HKN.out)
      clear hc10 hbB
      replace HD := Lib.hid (kk.blk HD.out (fun x => x))
      replace HX := Lib.hid (kk.blk HX.out (fun x => x))
      replace HA := Lib.hid (kk.blk HA.out (fun x => x))
      replace HB5 := Lib.hid (kk.blk HB5.out (fun x => x))
      replace HC := Lib.hid (kk.blk HC.out (fun x => x))
      replace RR := Lib.hid (RR.out.kept kk)
      replace HB := Lib.hid (HB.out.kept kk)
      replace OX := Lib.hid (OX.out.kept kk)
      replace RrA := Lib.hid (RrA.out.kept kk)
      replace RrB5 := Lib.hid (RrB5.out.kept kk)
      replace RrC := Lib.hid (RrC.out.kept kk)
      replace AA := Lib.hid (AA.out.kept kk.of_no (fun _ _ x => x))
      replace AB5 := Lib.hid (AB5.out.kept kk.of_no (fun _ _ x => x))
      replace KW := Lib.hid (KW.out.trans kk)
      clear kk
      have y1 : w10.cell? ⟨BB, 1, none⟩ = some (.int .i64 d.ep) := cell_blk HB5.out 1 _ dv1
      have z1 := cell_blk HD.out 1 _ dv1
      have y3 := cell_blk HB5.out 3 _ dv3
      have z3 := cell_blk HD.out 3 _ dv3
      have hql : (doW d kn y).queue.length + 1 = d.queue.length := doW_len HKN.out
      have hwl : IntKind.i64.wrap ((d.queue.length : Int) - 1) = ((doW d kn y).queue.length : Int) := by rw [IntWalk.i64_in _ (by have := RDD.out.ql; omega)]; omega
      go_wp2_with fail
      go_ret
      exact ⟨rfl, KW.out⟩
theorem stays_6 (d : Dev) (x : Wr) (k : Int) (keep : Bool) (ta qa da la : Option Addr) (tc qc dc lc : Nat) (w : World) (h : DevR w NoM d ta tc qa qc da dc la lc) (hot : ∀ r ∈ d.table, OutR w r) (hoq : ∀ y ∈ d.queue, OutR w y.rule) (ht : d.table.length ≤ 9223372036854775807) (hq : d.queue.length ≤ 9223372036854775807) (hox : OutR w x.rule) (hlt : d.ep < x.ep) (hnr : hasI (rdyTo d.queue d.queue.length) k = false) :
    Calls Try.prog 7 #[.agg (devC d ta tc qa qc da dc la lc), .agg (wrC x), .int .i64 k, .bool keep] w fun e w' => e = .returned (.bool true) ∧ Kept NoM w w' := by
  have HLT := Lib.hid hlt
  have HNR := Lib.hid hnr
  clear hlt hnr
  have HOX := Lib.hid (fun wx (k : Kept NoM w wx) => hox.kept k)
  clear hox
  have K0 := (((Kept.refl NoM w).alloc (.cells (devC d ta tc qa qc da dc la lc) 27)).alloc (.cells (wrC x) 41))
  have HD := Lib.hid (blk_old (blk_new w (.cells (devC d ta tc qa qc da dc la lc) 27)) (.cells (wrC x) 41))
  have HX := Lib.hid (blk_new' (w.alloc (.cells (devC d ta tc qa qc da dc la lc) 27)) (.cells (wrC x) 41) (w.heap.size + 1) (by simp))
  have KW := Lib.hid K0
  have RR := Lib.hid (h.kept K0.of_no)
  have OT := Lib.hid (fun wx (k : Kept NoM w wx) r hr => (hot r hr).kept k)
  have OQ := Lib.hid (fun wx (k : Kept NoM w wx) y hy => (hoq y hy).kept k)
  clear K0 h hot hoq
  go_enter Try.func7, Try.ntmps7
  go_wp2_with fail
  refine (sanity_ok _).mono ?_
  rintro e w1 ⟨rfl, kk⟩
  replace HD := Lib.hid (kk.blk HD.out (fun x => x))
  replace HX := Lib.hid (kk.blk HX.out (fun x => x))
  replace RR := Lib.hid (RR.out.kept kk)
  replace KW := Lib.hid (KW.out.trans kk)
  clear kk
  go_wp2_with (first
        | (refine wpList_load_big bigDev rfl _ rfl w.heap.size 0 (devC d ta tc qa qc da dc la lc) rfl (range_blk HD.out) rfl ?_))
  refine (right_ok d ta qa da la tc qc dc lc NoM w1 RR.out (OT.out _ KW.out) (OQ.out _ KW.out) ht hq).mono ?_
  rintro e w2 ⟨b1, rfl, hb1, kk⟩
  clear OT OQ
  replace HD := Lib.hid (kk.blk HD.out (fun x => x))
  replace HX := Lib.hid (kk.blk HX.out (fun x => x))
  replace RR := Lib.hid (RR.out.kept kk)
  replace KW := Lib.hid (KW.out.trans kk)
  clear kk
  cases b1 with
  | false =>
    go_wp2_with fail
    go_ret
    exact ⟨rfl, KW.out⟩
  | true =>
    obtain ⟨⟨hfew, hdb⟩, R⟩ := hb1 rfl
    have HB := Lib.hid hdb
    have RDD := Lib.hid R
    have FW : Hid (Few d) := Lib.hid ⟨by omega, by omega, by omega⟩
    have HFEW := Lib.hid hfew
    clear hb1 hdb R hfew
    go_wp2_with (first
          | (refine wpList_load_bigG bigWr (by rfl) _ rfl (w.heap.size + 1) 0 (wrC x) rfl (range_blk HX.out) rfl ?_))
    have ka := (Kept.refl NoM w2).alloc (.cells (wrC x) 41)
    replace HD := Lib.hid (ka.blk HD.out (fun x => x))
    replace HX := Lib.hid (ka.blk HX.out (fun x => x))
    replace RR := Lib.hid (RR.out.kept ka)
    replace HB := Lib.hid (HB.out.kept ka)
    replace KW := Lib.hid (KW.out.trans ka)
    refine (formedl_ok _ [x] NoM 1 _ (rd_one (blk_new w2 _) (fun x => x) rfl rfl) (by simp) (fun y hy => by rw [List.mem_singleton] at hy; subst hy; exact HOX.out _ KW.out)).mono ?_
    rintro e w3 ⟨b2, rfl, hb2, kk⟩
    have kx := ka.trans kk
    clear ka
    replace HD := Lib.hid (kk.blk HD.out (fun x => x))
    replace HX := Lib.hid (kk.blk HX.out (fun x => x))
    replace RR := Lib.hid (RR.out.kept kk)
    replace HB := Lib.hid (HB.out.kept kk)
    replace KW := Lib.hid (KW.out.trans kk)
    cases b2 with
    | false =>
      go_wp2_with fail
      go_ret
      exact ⟨rfl, KW.out⟩
    | true =>
      obtain ⟨⟨_, hox2⟩, hfx⟩ := hb2 rfl
      have FX := Lib.hid (hfx x (List.mem_singleton.2 rfl))
      have OX := Lib.hid ((hox2 x (List.mem_singleton.2 rfl)).kept kk)
      clear hb2 hox2 hfx kx kk HOX
      have RA := Lib.hid (RDD.out.recv FX.out)
      have EA := Lib.hid (recv_ep (d := d) (w := x))
      go_wp2_with (first
            | (refine wpList_load_big bigDev rfl _ rfl w.heap.size 0 (devC d ta tc qa qc da dc la lc) rfl (range_blk HD.out) rfl ?_)
            | (refine wpList_load_big bigWr rfl _ rfl (w.heap.size + 1) 0 (wrC x) rfl (range_blk HX.out) rfl ?_))
      refine (recv_ok _ d x NoM w3 ⟨_, _, _, _, _, _, _, _, rfl, RR.out⟩ noM_lt RDD.out.ql FW.out.dn (fun wx _ => by have := formed_ok x wx (by have := (formed_kind FX.out).1; omega) (by have := (formed_kind FX.out).1; omega); rw [FX.out] at this; exact this)).mono ?_
      rintro e w4 ⟨v7, av7, rfl, dd7, aa7, kk⟩
      obtain ⟨ta4, tc4, qa4, qc4, da4, dc4, la4, lc4, rfl, r7⟩ := dd7
      obtain ⟨aa4, ac4, ea7, _, _⟩ := aa7.shape
      have ea8 : av7 = .slice aa4 (recvA d x).length ac4 := ea7
      subst ea8
      clear ea7
      replace HD := Lib.hid (kk.blk HD.out (fun x => x))
      replace HX := Lib.hid (kk.blk HX.out (fun x => x))
      replace RR := Lib.hid (RR.out.kept kk)
      replace HB := Lib.hid (HB.out.kept kk)
      replace OX := Lib.hid (OX.out.kept kk)
      replace KW := Lib.hid (KW.out.trans kk)
      clear kk
      have kk := (Kept.refl NoM w4).alloc (.cells (devC (recvD d x) ta4 tc4 qa4 qc4 da4 dc4 la4 lc4) 27)
      replace HD := Lib.hid (kk.blk HD.out (fun x => x))
      replace HX := Lib.hid (kk.blk HX.out (fun x => x))
      replace RR := Lib.hid (RR.out.kept kk)
      replace HB := Lib.hid (HB.out.kept kk)
      replace OX := Lib.hid (OX.out.kept kk)
      replace KW := Lib.hid (KW.out.trans kk)
      have HA := Lib.hid (blk_new w4 (.cells (devC (recvD d x) ta4 tc4 qa4 qc4 da4 dc4 la4 lc4) 27))
      have RrA := Lib.hid (r7.kept kk)
      have AA := Lib.hid (aa7.kept kk.of_no (M := NoM) (fun _ _ x => x))
      clear kk r7 aa7
      go_wp2_with (first
            | (refine wpList_alloc_Z rfl 27 rfl _ (devZ _) ?_)
            | (refine wpList_store_bign (cs := devC (recvD d x) ta4 tc4 qa4 qc4 da4 dc4 la4 lc4) bigDev rfl _ _ rfl _ rfl rfl rfl rfl rfl (dev1 _ _ _ _ _ _ _ _ _) ?_)
            | (refine wpList_load_big bigDev rfl _ rfl w.heap.size 0 (devC d ta tc qa qc da dc la lc) rfl (range_blk HD.out) rfl ?_))
      generalize w4.heap.size = BA at *
      generalize w4.alloc (.cells (devC (recvD d x) ta4 tc4 qa4 qc4 da4 dc4 la4 lc4) 27) = uA at *
      refine (do_bad d k ta qa da la tc qc dc lc NoM uA RR.out (by have := RDD.out.ql; omega) (fun y hy => by have := formed_pri (RDD.out.q y hy).1; omega) HNR.out).mono ?_
      rintro e w5 ⟨rfl, kk⟩
      replace HD := Lib.hid (kk.blk HD.out (fun x => x))
      replace HX := Lib.hid (kk.blk HX.out (fun x => x))
      replace HA := Lib.hid (kk.blk HA.out (fun x => x))
      replace RR := Lib.hid (RR.out.kept kk)
      replace HB := Lib.hid (HB.out.kept kk)
      replace OX := Lib.hid (OX.out.kept kk)
      replace RrA := Lib.hid (RrA.out.kept kk)
      replace AA := Lib.hid (AA.out.kept kk.of_no (fun _ _ x => x))
      replace KW := Lib.hid (KW.out.trans kk)
      clear kk
      have kk := (Kept.refl NoM w5).alloc (.cells devZC 27)
      replace HD := Lib.hid (kk.blk HD.out (fun x => x))
      replace HX := Lib.hid (kk.blk HX.out (fun x => x))
      replace HA := Lib.hid (kk.blk HA.out (fun x => x))
      replace RR := Lib.hid (RR.out.kept kk)
      replace HB := Lib.hid (HB.out.kept kk)
      replace OX := Lib.hid (OX.out.kept kk)
      replace RrA := Lib.hid (RrA.out.kept kk)
      replace AA := Lib.hid (AA.out.kept kk.of_no (fun _ _ x => x))
      replace KW := Lib.hid (KW.out.trans kk)
      have HBB := Lib.hid (blk_new w5 (.cells devZC 27))
      clear kk
      go_wp2_with (first
            | (refine wpList_alloc_Z rfl 27 rfl _ (devZ _) ?_)
            | (refine wpList_store_bign (cs := devZC) bigDev rfl _ _ rfl _ rfl rfl rfl rfl rfl (dev1 _ _ _ _ _ _ _ _ _) ?_)
            | (refine wpList_load_big bigDev rfl _ rfl w.heap.size 0 (devC d ta tc qa qc da dc la lc) rfl (range_blk HD.out) rfl ?_))
      generalize w5.heap.size = BB at *
      generalize w5.alloc (.cells devZC 27) = uB at *
      refine (reb_ok d ta qa da la tc qc dc lc NoM keep uB RR.out).mono ?_
      rintro e w6 ⟨v7, rfl, dd7, kk⟩
      obtain ⟨ta6, tc6, qa6, qc6, da6, dc6, la6, lc6, rfl, r7⟩ := dd7
      replace HD := Lib.hid (kk.blk HD.out (fun x => x))
      replace HX := Lib.hid (kk.blk HX.out (fun x => x))
      replace HA := Lib.hid (kk.blk HA.out (fun x => x))
      replace HBB := Lib.hid (kk.blk HBB.out (fun x => x))
      replace RR := Lib.hid (RR.out.kept kk)
      replace HB := Lib.hid (HB.out.kept kk)
      replace OX := Lib.hid (OX.out.kept kk)
      replace RrA := Lib.hid (RrA.out.kept kk)
      replace AA := Lib.hid (AA.out.kept kk.of_no (fun _ _ x => x))
      replace KW := Lib.hid (KW.out.trans kk)
      clear kk
      have kk := (Kept.refl NoM w6).alloc (.cells (devC (rebD d keep) ta6 tc6 qa6 qc6 da6 dc6 la6 lc6) 27)
      replace HD := Lib.hid (kk.blk HD.out (fun x => x))
      replace HX := Lib.hid (kk.blk HX.out (fun x => x))
      replace HA := Lib.hid (kk.blk HA.out (fun x => x))
      replace HBB := Lib.hid (kk.blk HBB.out (fun x => x))
      replace RR := Lib.hid (RR.out.kept kk)
      replace HB := Lib.hid (HB.out.kept kk)
      replace OX := Lib.hid (OX.out.kept kk)
      replace RrA := Lib.hid (RrA.out.kept kk)
      replace AA := Lib.hid (AA.out.kept kk.of_no (fun _ _ x => x))
      replace KW := Lib.hid (KW.out.trans kk)
      have HC := Lib.hid (blk_new w6 (.cells (devC (rebD d keep) ta6 tc6 qa6 qc6 da6 dc6 la6 lc6) 27))
      have RrC := Lib.hid (r7.kept kk)
      clear kk r7
      go_wp2_with (first
            | (refine wpList_alloc_Z rfl 27 rfl _ (devZ _) ?_)
            | (refine wpList_store_bign (cs := devC (rebD d keep) ta6 tc6 qa6 qc6 da6 dc6 la6 lc6) bigDev rfl _ _ rfl _ rfl rfl rfl rfl rfl (dev1 _ _ _ _ _ _ _ _ _) ?_)
            | (refine wpList_load_bigG bigDev (by rfl) _ rfl BA 0 (devC (recvD d x) ta4 tc4 qa4 qc4 da4 dc4 la4 lc4) rfl (range_blk HA.out) rfl ?_))
      generalize w6.heap.size = BC at *
      generalize w6.alloc (.cells (devC (rebD d keep) ta6 tc6 qa6 qc6 da6 dc6 la6 lc6) 27) = uC at *
      have hbA : DevB uC (recvD d x) := DevB.recv HB.out OX.out RDD.out
      refine (rcheck_ok (recvD d x) _ _ _ _ _ _ _ _ NoM uC RrA.out hbA).mono ?_
      rintro e w7 ⟨c7, rfl, hc7, kk⟩
      obtain rfl : c7 = 0 := hc7.2 RA.out
      clear hc7 hbA
      replace HD := Lib.hid (kk.blk HD.out (fun x => x))
      replace HX := Lib.hid (kk.blk HX.out (fun x => x))
      replace HA := Lib.hid (kk.blk HA.out (fun x => x))
      replace HBB := Lib.hid (kk.blk HBB.out (fun x => x))
      replace HC := Lib.hid (kk.blk HC.out (fun x => x))
      replace RR := Lib.hid (RR.out.kept kk)
      replace HB := Lib.hid (HB.out.kept kk)
      replace OX := Lib.hid (OX.out.kept kk)
      replace RrA := Lib.hid (RrA.out.kept kk)
      replace RrC := Lib.hid (RrC.out.kept kk)
      replace AA := Lib.hid (AA.out.kept kk.of_no (fun _ _ x => x))
      replace KW := Lib.hid (KW.out.trans kk)
      clear kk
      have y1 := cell_blk HA.out 1 _ dv1
      have z1 := cell_blk HD.out 1 _ dv1
      have x0 := cell_blk HX.out 0 _ (wrC_0 x)
      have ye : (recvD d x).ep = x.ep := by rw [EA.out]; have := HLT.out; split <;> omega
      rw [ye] at y1
      clear ye
      have x9 : (max d.ep x.ep : Int) = x.ep := by have := HLT.out; omega
      have g1 : d.ep < x.ep := by have := HLT.out; omega
      have g2 : ¬ x.ep < d.ep := by have := HLT.out; omega
      have g3 : d.ep ≤ x.ep := by have := HLT.out; omega
      have g4 : ¬ x.ep ≤ d.ep := by have := HLT.out; omega
      go_wp2_with (first
            | (refine wpList_load_bigG bigDev (by rfl) _ rfl BC 0 (devC (rebD d keep) ta6 tc6 qa6 qc6 da6 dc6 la6 lc6) rfl (range_blk HC.out) rfl ?_))
      clear g1 g2 g3 g4
      have hbC : DevB w7 (rebD d keep) := DevB.reb HB.out keep
      refine (rcheck_ok (rebD d keep) _ _ _ _ _ _ _ _ NoM w7 RrC.out hbC).mono ?_
      rintro e w8 ⟨c8, rfl, hc8, kk⟩
      obtain rfl : c8 = 0 := hc8.2 (RDD.out.reb keep)
      clear hc8 hbC y1 z1 x0 x9
      replace HD := Lib.hid (kk.blk HD.out (fun x => x))
      replace HX := Lib.hid (kk.blk HX.out (fun x => x))
      replace HA := Lib.hid (kk.blk HA.out (fun x => x))
      replace HBB := Lib.hid (kk.blk HBB.out (fun x => x))
      replace HC := Lib.hid (kk.blk HC.out (fun x => x))
      replace RR := Lib.hid (RR.out.kept kk)
      replace HB := Lib.hid (HB.out.kept kk)
      replace OX := Lib.hid (OX.out.kept kk)
      replace RrA := Lib.hid (RrA.out.kept kk)
      replace RrC := Lib.hid (RrC.out.kept kk)
      replace AA := Lib.hid (AA.out.kept kk.of_no (fun _ _ x => x))
      replace KW := Lib.hid (KW.out.trans kk)
      clear kk
      have y1 : w8.cell? ⟨BC, 1, none⟩ = some (.int .i64 d.ep) := cell_blk HC.out 1 _ dv1
      have z1 := cell_blk HD.out 1 _ dv1
      have x0 := cell_blk HX.out 0 _ (wrC_0 x)
      have flt : ¬ x.ep < d.ep := by have := HLT.out; omega
      go_wp2_with fail
      go_ret
      exact ⟨rfl, KW.out⟩
theorem rdyTo_inv {q : List Wr} {k : Int} (h : hasI (rdyTo q q.length) k = true) : ∃ (kn : Nat) (y : Wr), k = kn ∧ q[kn]? = some y ∧ rdyB q kn = true := by
  obtain ⟨n, hn, e⟩ := List.mem_map.1 (hasI_iff.1 h)
  obtain ⟨h1, h2⟩ := List.mem_filter.1 hn
  have := List.mem_range.1 h1
  exact ⟨n, q[n], e.symm, by simp, h2⟩
theorem stays_ok (d : Dev) (x : Wr) (k : Int) (keep : Bool) (ta qa da la : Option Addr) (tc qc dc lc : Nat) (w : World) (h : DevR w NoM d ta tc qa qc da dc la lc) (hot : ∀ r ∈ d.table, OutR w r) (hoq : ∀ y ∈ d.queue, OutR w y.rule) (ht : d.table.length ≤ 9223372036854775807) (hq : d.queue.length ≤ 9223372036854775807) (hox : OutR w x.rule) :
    Calls Try.prog 7 #[.agg (devC d ta tc qa qc da dc la lc), .agg (wrC x), .int .i64 k, .bool keep] w fun e w' => e = .returned (.bool true) ∧ Kept NoM w w' := by
  cases hr : hasI (rdyTo d.queue d.queue.length) k with
  | true =>
    obtain ⟨kn, y, rfl, h1, h2⟩ := rdyTo_inv hr
    rcases Int.lt_trichotomy x.ep d.ep with g | g | g
    · exact stays_1 d x 0 keep ta qa da la tc qc dc lc w h hot hoq ht hq hox g kn y h1 h2
    · exact stays_3 d x 0 keep ta qa da la tc qc dc lc w h hot hoq ht hq hox g kn y h1 h2
    · exact stays_5 d x 0 keep ta qa da la tc qc dc lc w h hot hoq ht hq hox g kn y h1 h2
  | false =>
    rcases Int.lt_trichotomy x.ep d.ep with g | g | g
    · exact stays_2 d x k keep ta qa da la tc qc dc lc w h hot hoq ht hq hox g hr
    · exact stays_4 d x k keep ta qa da la tc qc dc lc w h hot hoq ht hq hox g hr
    · exact stays_6 d x k keep ta qa da la tc qc dc lc w h hot hoq ht hq hox g hr
end Go.Proofs.Ytghgegghlefclaa
