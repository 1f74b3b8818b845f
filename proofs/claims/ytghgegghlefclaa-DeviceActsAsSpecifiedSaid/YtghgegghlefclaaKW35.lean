/- Walks: Do of the program, the other ways. -/
import Derived.Test.YtghgegghlefclaaKW34
set_option linter.unusedVariables false
set_option linter.unusedSimpArgs false
set_option linter.unusedSectionVars false
namespace Go.Proofs.Ytghgegghlefclaa
open Go.RowKit
set_option maxHeartbeats 4000000
set_option maxRecDepth 8000
theorem do_p1 (d : Dev) (kn : Nat) (x : Wr) (ta qa da la : Option Addr) (tc qc dc lc : Nat) (M : Nat → Prop) (w : World) (h : DevR w M d ta tc qa qc da dc la lc) (hM : ∀ i, M i → i < w.heap.size) (hk : d.queue[kn]? = some x) (hr : rdyB d.queue kn = true)
    (hql : d.queue.length ≤ 1000) (htl : d.table.length ≤ 1000) (hdl : d.done.length ≤ 1000) (hll : d.lost.length ≤ 1000) (hp : ∀ x ∈ d.queue, -9223372036854775808 ≤ x.rule.pri ∧ x.rule.pri ≤ 9223372036854775807) (hdt : DecT d.table) (hrm : (d.table.length : Int) ≤ d.room) (hdi : IncI d.done) (hsq : x.seq ∉ d.done) (hlo : hasI d.lost x.seq = false) (hpk : putOk d.table d.room x = true) (he : earlyW d x = true) :
    Calls Try.prog 14 #[.agg (devC d ta tc qa qc da dc la lc), .int .i64 kn] w (DoPost M w ({ d with queue := d.queue.eraseIdx kn, table := (putT d.table d.room x), done := (insI x.seq d.done) }) ([])) := by
  obtain ⟨qb, qo, rfl, _, hc0⟩ := wr_at h.rq hk
  have hkl := (List.getElem?_eq_some_iff.1 hk).1
  have hki : (kn : Int) < d.queue.length := by omega
  have KB := Lib.hid (((Kept.refl NoM w).alloc (.cells (devC d ta tc (some ⟨qb, qo, none⟩) qc da dc la lc) 27)).alloc (.cells devZC 27))
  have B0 := Lib.hid (blk_old (blk_new w (.cells (devC d ta tc (some ⟨qb, qo, none⟩) qc da dc la lc) 27)) (.cells devZC 27))
  have B4 := Lib.hid (blk_new' (w.alloc (.cells (devC d ta tc (some ⟨qb, qo, none⟩) qc da dc la lc) 27)) (.cells devZC 27) (w.heap.size + 1) (by simp))
  have RDY := Lib.hid (ready_ok d ta (some ⟨qb, qo, none⟩) da la tc qc dc lc M _ (h.rq.kept KB.out.of_no (fun _ _ x => x)) (by omega) hp)
  have HC0 := Lib.hid (rangeAt_kept (M := NoM) hc0 (Kept.refl _ _) (fun x => x))
  have HH := Lib.hid h
  have HM := Lib.hid hM
  have HKR := Lib.hid (hasI_iff.2 (rdyTo_mem hk hr))
  have hle : d.queue.length - 1 = (d.queue.eraseIdx kn).length := by rw [List.length_eraseIdx, if_pos hkl]
  have hw1 : IntKind.i64.wrap ((kn : Int) + 1) = (kn : Int) + 1 := IntWalk.i64_in _ (by omega)
  have HLE := Lib.hid hle
  have HQL := Lib.hid (show d.queue.length ≤ 1000000 by omega)
  have HDT := Lib.hid hdt
  have HDI := Lib.hid hdi
  have HSQ := Lib.hid hsq
  clear h hM hc0 hr hp hdt hdi hsq hle
  have HLO := Lib.hid hlo
  have HPK := Lib.hid hpk
  have HE := Lib.hid (show earlyW ({ d with queue := d.queue.eraseIdx kn, table := (putT d.table d.room x), done := (insI x.seq d.done) } : Dev) x = true from he)
  clear hlo he hpk
  have HIN := Lib.hid (insI_pos HDI.out HSQ.out)
  have hpo := posI_le x.seq d.done
  go_enter Try.func14, Try.ntmps14
  go_wp2_with (first
      | (refine wpList_alloc_Z rfl 27 rfl _ (devZ _) ?_)
      | (refine wpList_alloc_Z rfl 41 rfl _ (wrZ _) ?_)
      | (refine wpList_alloc_Z rfl 60 rfl _ (akZ _) ?_)
      | (refine wpList_load_big bigDev rfl _ rfl w.heap.size 0 (devC d ta tc (some ⟨qb, qo, none⟩) qc da dc la lc) rfl (range_blk B0.out) rfl ?_)
      | (refine wpList_load_big bigWr rfl _ rfl qb (qo + kn * 26) (wrC x) rfl HC1.out rfl ?_)
      | (refine wpList_store_bign bigWr rfl _ _ rfl _ rfl rfl rfl rfl rfl (wr1 x) ?_)
      | (refine wpList_store_bign (cs := akC x 0) bigAk rfl _ _ rfl w4.heap.size (by simp) rfl rfl rfl rfl (ak1 x 0) ?_)
      | (go_at_call 13; refine RDY.out.mono ?_; rintro e w1 ⟨ra, rn, rcc, RO, rfl, hO, hN, k1⟩; have R1 := Lib.hid (hO.rd (M := NoM) (fun _ _ x => x)); have K1 := Lib.hid (KB.out.trans k1); have C0 := Lib.hid (k1.blk B0.out (fun x => x)); have C4 := Lib.hid (k1.blk B4.out (fun x => x)); have HC1 := Lib.hid (rangeAt_kept HC0.out K1.out (fun x => x)); have t3 := cell_blk C0.out 3 _ dv3; have hz1 := lt_of_block C4.out; have D2 := Lib.hid (blk_old C0.out (.cells (wrC x) 41)); have Z2 := Lib.hid (blk_old C4.out (.cells (wrC x) 41)); have s3 := cell_blk D2.out 3 _ dv3; have KA2 := Lib.hid (K1.out.alloc (.cells (wrC x) 41)); have X2 := Lib.hid (blk_new w1 (.cells (wrC x) 41)); clear hO hN k1 RDY)
      | (go_at_call 47; refine (hasints_ok _ (rdyTo d.queue d.queue.length) NoM kn _ R1.out (by have := rdyTo_len d.queue d.queue.length; omega)).mono ?_; rw [HKR.out]; rintro e w2 ⟨rfl, rfl⟩; clear R1 HKR)
      | (go_at_call 49; refine (clonew_ok _ d.queue M _ (HH.out.rq.kept KA2.out.of_no (fun _ _ x => x)) (by omega)).mono ?_; rintro e w3 ⟨a5, cap5, O5, rfl, q1, q2, q3⟩; have Q1 := Lib.hid q1; have Q2 := Lib.hid q2; have Q3 := Lib.hid q3; clear q1 q2 q3)
      | (go_at_call 48; refine (delw_ok _ d.queue kn w3 Q1.out hkl (by omega)).mono ?_; rw [HLE.out]; rintro e w4 ⟨a6, cap6, rfl, q4, q5⟩; have Q4 := Lib.hid q4; have Q5 := Lib.hid q5; have K34 := Lib.hid (Q3.out.trans' q5 (fun i hi e => newO_no Q2.out i hi e)); have D4 := Lib.hid (K34.out.blk D2.out (fun x => x)); have X4 := Lib.hid (K34.out.blk X2.out (fun x => x)); have y3 := cell_blk D4.out 3 _ dv3; have z3 := free_blk D4.out 3; have hx2 : w1.heap.size + 1 ≤ w4.heap.size := (by have := K34.out.size; simpa using this); have X5 := Lib.hid (blk_set_ne (i := 3) X4.out (show w1.heap.size ≠ w.heap.size by omega) (.slice a6 (d.queue.eraseIdx kn).length cap6)); have v0 := cell_blk X5.out 0 _ (wrC_0 x); have v1 := cell_blk X5.out 1 _ (wrC_1 x); have S0 := Lib.hid (DoSt.start HM.out HH.out D2.out Z2.out K1.out (by omega) Q3.out Q2.out Q5.out Q4.out rfl); have u5 := cell_blk S0.out.hd 5 _ dv5; have u1 := cell_blk S0.out.hx 1 _ (wrC_1 x); clear q4 q5))
  refine (hasints_ok _ d.lost _ x.seq _ S0.out.rd.rl (by omega)).mono ?_
  rw [HLO.out]
  rintro e w5 ⟨rfl, rfl⟩
  clear t3 s3 y3 z3 v0 v1 u5 u1 B0 B4 KB C0 C4 D2 Z2 X2 KA2 Q1 Q2 Q3 Q4 Q5 K34 D4 X4 X5 HC0 HC1
  have hz4 : w.heap.size + 2 ≤ w1.heap.size := S0.out.xw
  have hz5 : w1.heap.size < w4.heap.size := S0.out.aw
  generalize (w4.setCell { block := w.heap.size, off := 3 } (Value.slice a6 (d.queue.eraseIdx kn).length cap6)).alloc (Obj.cells #[Value.int IntKind.i64 x.ep, Value.int IntKind.i64 x.seq, Value.int IntKind.i64 0] 60) = w6 at *
  have HBX := Lib.hid (S0.out.bxlt HM.out)
  have S6 := S0
  clear S0
  have t2 := cell_blk S6.out.hd 2 _ dv2
  have t0 := cell_blk S6.out.hd 0 _ dv0
  have x1 := cell_blk S6.out.hx 1 _ (wrC_1 x)
  go_wp2_with (first
      | (refine wpList_load_big bigWr rfl _ rfl w1.heap.size 0 (wrC x) rfl (range_blk S6.out.hx) rfl ?_)
      | (go_at_call 12; refine (put_ok _ d.table (BX M w.heap.size (w.heap.size + 1) w1.heap.size w4.heap.size) d.room x w6 S6.out.rd.rt HBX.out HDT.out hrm (by omega)).mono ?_; rw [HPK.out]; rintro e w7 ⟨a7, cap7, rfl, q1, q2⟩; have S7 := Lib.hid (S6.out.kept q2); have S8 := Lib.hid (S7.out.setT q1); have y2 := cell_blk S7.out.hd 2 _ dv2; have z2 := free_blk S7.out.hd 2; have s4 := cell_blk S8.out.hd 4 _ dv4; have x1 := cell_blk S8.out.hx 1 _ (wrC_1 x); clear q1 q2)
      | (go_at_call 50; refine (bsi_ok _ d.done _ x.seq _ S8.out.rd.rd HDI.out (by omega)).mono ?_; rintro e w9 ⟨b9, rfl, rfl⟩))
  generalize (w7.setCell ⟨w.heap.size, 2, none⟩ (.slice a7 (putT d.table d.room x).length cap7)) = w8 at *
  clear y2 z2 t2 t0
  refine wp_region_par 7 [] [] [] [] [] (fun wx => Kept NoM w8 wx)
        [fun v _ => v = .pointer (some ⟨w.heap.size, 4, none⟩), fun v _ => v = .slice da d.done.length dc, fun v wx => ∃ a8 cap8 O8, v = .slice a8 d.done.length cap8 ∧ OwnS wx O8 3 1 EInt (.slice a8 d.done.length cap8) d.done ∧ ∀ o, O8 = some o → w8.heap.size ≤ o, fun v _ => v = .int .i64 (posI x.seq d.done), fun v _ => v = .pointer (some ⟨w1.heap.size, 1, none⟩), fun v _ => v = .int .i64 x.seq, fun v wx => ∃ b, (v = .slice (some ⟨b, 0, none⟩) 1 1 ∧ w8.heap.size ≤ b) ∧ wx.heap[b]? = some (.cells #[.int .i64 x.seq] 3 (0, 0))] (by kernel_rfl) (by kernel_rfl) (by kernel_rfl) (Kept.refl NoM w8).drew (inits_nil) ?_ ?_
  · intro i hi9
    have hst := stab_all (posts := [fun v _ => v = .pointer (some ⟨w.heap.size, 4, none⟩), fun v _ => v = .slice da d.done.length dc, fun v wx => ∃ a8 cap8 O8, v = .slice a8 d.done.length cap8 ∧ OwnS wx O8 3 1 EInt (.slice a8 d.done.length cap8) d.done ∧ ∀ o, O8 = some o → w8.heap.size ≤ o, fun v _ => v = .int .i64 (posI x.seq d.done), fun v _ => v = .pointer (some ⟨w1.heap.size, 1, none⟩), fun v _ => v = .int .i64 x.seq, fun v wx => ∃ b, (v = .slice (some ⟨b, 0, none⟩) 1 1 ∧ w8.heap.size ≤ b) ∧ wx.heap[b]? = some (.cells #[.int .i64 x.seq] 3 (0, 0))])        (stab_cons (stab_const _) (stab_cons (stab_const _) (stab_cons (fun _ _ _ k ⟨a8, cap8, O8, q1, q2, q3⟩ => ⟨a8, cap8, O8, q1, q2.kept k (fun _ _ x => x) (fun _ _ x => x), q3⟩) (stab_cons (stab_const _) (stab_cons (stab_const _) (stab_cons (stab_const _) (stab_cons (stab_blk (fun b v => v = .slice (some ⟨b, 0, none⟩) 1 1 ∧ w8.heap.size ≤ b) (fun b => b) (fun b => .cells #[.int .i64 x.seq] 3 (0, 0))) stab_nil)))))))
    have hist := init_stab (inits := []) (fun p h => by cases h)
    have HST := Lib.hid hst
    have HIST := Lib.hid hist
    clear hst hist
    rcases (show i = 0 ∨ i = 1 ∨ i = 2 ∨ i = 3 ∨ i = 4 ∨ i = 5 ∨ i = 6 by omega) with rfl | rfl | rfl | rfl | rfl | rfl | rfl
    · refine asks_intro ?_; intro o ho a wx hc hout hp hi R hR; cases ho
      have e2 : a.tmps[2]? = some (.pointer (some ⟨w.heap.size, 0, none⟩)) := hout 2 rfl
      go_simp
      exact hR _ _ hc rfl (fun _ _ _ _ _ u h => h) (fun _ _ h => h)
    · refine asks_intro ?_; intro o ho a wx hc hout hp hi R hR; cases ho
      have e61 : a.tmps[61]?.getD undef = .pointer (some ⟨w.heap.size, 4, none⟩) := hp 0 (by omega) rfl
      have y4 := cell_blk (hc.blk S8.out.hd (fun x => x)) 4 _ dv4
      go_simp
      exact hR _ _ hc rfl (fun _ _ _ _ _ u h => h) (fun _ _ h => h)
    · refine asks_intro ?_; intro o ho a wx hc hout hp hi R hR; cases ho
      have e62 : a.tmps[62]?.getD undef = .slice da d.done.length dc := hp 1 (by omega) rfl
      go_simp
      refine (clonei_ok _ d.done (BX M w.heap.size (w.heap.size + 1) w1.heap.size w4.heap.size) wx (S8.out.rd.rd.kept hc.of_no (fun _ _ x => x)) (by omega)).mono ?_
      rintro e w2 ⟨a8, cap8, O8, rfl, q1, q2, q3⟩
      exact ⟨_, rfl, hR _ _ (hc.trans q3) ⟨a8, cap8, O8, rfl, q1, fun o ho => by rcases q2 with q2 | ⟨g2, q2, q4⟩; exact absurd (q2.symm.trans ho) (by simp); exact Nat.le_trans hc.size (by rw [ho] at q2; cases q2; exact q4)⟩ (fun j _ _ _ _ u h => HST.out j u _ _ q3 h) (fun j _ h => HIST.out j _ _ q3 h)⟩
    · refine asks_intro ?_; intro o ho a wx hc hout hp hi R hR; cases ho
      have e10 : a.tmps[10]? = some (.int .i64 (posI x.seq d.done)) := hout 10 rfl
      go_simp
      exact hR _ _ hc rfl (fun _ _ _ _ _ u h => h) (fun _ _ h => h)
    · refine asks_intro ?_; intro o ho a wx hc hout hp hi R hR; cases ho
      have e7 : a.tmps[7]? = some (.pointer (some ⟨w1.heap.size, 0, none⟩)) := hout 7 rfl
      go_simp
      exact hR _ _ hc rfl (fun _ _ _ _ _ u h => h) (fun _ _ h => h)
    · refine asks_intro ?_; intro o ho a wx hc hout hp hi R hR; cases ho
      have e65 : a.tmps[65]?.getD undef = .pointer (some ⟨w1.heap.size, 1, none⟩) := hp 4 (by omega) rfl
      have y1 := cell_blk (hc.blk S8.out.hx (fun x => x)) 1 _ (wrC_1 x)
      go_simp
      exact hR _ _ hc rfl (fun _ _ _ _ _ u h => h) (fun _ _ h => h)
    · refine asks_intro ?_; intro o ho a wx hc hout hp hi R hR; cases ho
      have e66 : a.tmps[66]?.getD undef = .int .i64 x.seq := hp 5 (by omega) rfl
      go_simp
      exact hR _ _ (hc.alloc _) ⟨_, ⟨rfl, hc.size⟩, blk_new _ _⟩ (fun j _ _ _ _ u h => HST.out j u _ _ ((Kept.refl _ _).alloc _) h) (fun j _ h => HIST.out j _ _ ((Kept.refl _ _).alloc _) h)
  · intro vs w' hc hp
    have e61 : vs 0 = .pointer (some ⟨w.heap.size, 4, none⟩) := hp 0 (by omega) rfl
    have e62 : vs 1 = .slice da d.done.length dc := hp 1 (by omega) rfl
    obtain ⟨a8, cap8, O8, e63, o8, n8⟩ : ∃ a8 cap8 O8, vs 2 = .slice a8 d.done.length cap8 ∧ OwnS w' O8 3 1 EInt (.slice a8 d.done.length cap8) d.done ∧ ∀ o, O8 = some o → w8.heap.size ≤ o := hp 2 (by omega) rfl
    have e64 : vs 3 = .int .i64 (posI x.seq d.done) := hp 3 (by omega) rfl
    have e65 : vs 4 = .pointer (some ⟨w1.heap.size, 1, none⟩) := hp 4 (by omega) rfl
    have e66 : vs 5 = .int .i64 x.seq := hp 5 (by omega) rfl
    obtain ⟨b, e67, hb67⟩ : ∃ b, (vs 6 = .slice (some ⟨b, 0, none⟩) 1 1 ∧ w8.heap.size ≤ b) ∧ w'.heap[b]? = some (.cells #[.int .i64 x.seq] 3 (0, 0)) := hp 6 (by omega) rfl
    simp only [List.take_succ_cons, List.take_zero, List.drop_succ_cons, List.drop_zero, putAll, Act.put, List.setIfInBounds_toArray, List.set_cons_zero, List.set_cons_succ, Nat.reduceAdd, e61, e62, e64, e65, e66]
    obtain ⟨e67, hsb⟩ := e67
    rw [e63, e67]
    change wpList _ _ _ _ _ _
    have HO8 := Lib.hid o8
    have HN8 := Lib.hid n8
    have HC8 := Lib.hid hc
    have HV8 := Lib.hid hb67
    clear hc hp o8 n8 hb67
    generalize w' = we at *
    go_wp2_with (first       | (go_at_call 51; go_loud (refine (insi_ok (M := NoM) _ d.done (posI x.seq d.done) x.seq b we HO8.out hpo (by omega) HV8.out (fun hh => own_ne HO8.out HV8.out HSQ.out (by omega))).mono ?_; rw [← HIN.out]; rintro e w10 ⟨a10, cap10, O10, rfl, q1, q2, q3⟩; have S10 := Lib.hid (S8.out.kept (HC8.out.trans' q3 (fun i hi e => absurd (HN8.out _ e.symm) (by omega)))); have S11 := Lib.hid (S10.out.setDn (by rw [len_insI]) (S8.out.rdn HM.out q1 (newO_ge HN8.out HC8.out.size q2))); have y4 := cell_blk S10.out.hd 4 _ dv4; have z4 := free_blk S10.out.hd 4; clear q1 q2 q3))       | (refine wpList_load_big bigDev rfl _ rfl w.heap.size 0 (devC ({ d with queue := d.queue.eraseIdx kn, table := (putT d.table d.room x), done := (insI x.seq d.done) } : Dev) a7 cap7 a6 cap6 a10 cap10 la lc) rfl (range_blk (by first | exact S12.out.hd | exact S11.out.hd)) rfl ?_)       | (refine wpList_load_big bigWr rfl _ rfl w1.heap.size 0 (wrC x) rfl (range_blk S11.out.hx) rfl ?_)       | (go_at_call 53; refine (early_ok ({ d with queue := d.queue.eraseIdx kn, table := (putT d.table d.room x), done := (insI x.seq d.done) } : Dev) x a7 a6 a10 la cap7 cap6 cap10 lc _).mono ?_; rw [HE.out]; rintro e w12 ⟨rfl, k4⟩; have S12 := Lib.hid (S11.out.kept k4); clear k4)       | (refine wpList_store_bigb (cs := devC ({ d with queue := d.queue.eraseIdx kn, table := (putT d.table d.room x), done := (insI x.seq d.done) } : Dev) a7 cap7 a6 cap6 a10 cap10 la lc) bigDev rfl _ _ rfl (w.heap.size + 1) rfl rfl S12.out.hz rfl rfl (dev1 _ _ _ _ _ _ _ _ _) ?_))
    have GB := Lib.hid (putB_blk w12 (w.heap.size + 1) (devC ({ d with queue := d.queue.eraseIdx kn, table := (putT d.table d.room x), done := (insI x.seq d.done) } : Dev) a7 cap7 a6 cap6 a10 cap10 la lc) 27 (lt_of_block S12.out.hz))
    have FD := Lib.hid (S12.out.dev ((Kept.refl (fun i => i = w.heap.size + 1) w12).putM rfl (devC ({ d with queue := d.queue.eraseIdx kn, table := (putT d.table d.room x), done := (insI x.seq d.done) } : Dev) a7 cap7 a6 cap6 a10 cap10 la lc) 27))
    generalize putB w12 (w.heap.size + 1) (devC ({ d with queue := d.queue.eraseIdx kn, table := (putT d.table d.room x), done := (insI x.seq d.done) } : Dev) a7 cap7 a6 cap6 a10 cap10 la lc) 27 = wx at *
    have hl0 : _root_.Go.World.cell? _ ⟨w.heap.size + 1, 0, none⟩ = _ := cell_blk GB.out 0 _ dv0
    have hl1 : _root_.Go.World.cell? _ ⟨w.heap.size + 1, 1, none⟩ = _ := cell_blk GB.out 1 _ dv1
    have hl2 : _root_.Go.World.cell? _ ⟨w.heap.size + 1, 2, none⟩ = _ := cell_blk GB.out 2 _ dv2
    have hl3 : _root_.Go.World.cell? _ ⟨w.heap.size + 1, 3, none⟩ = _ := cell_blk GB.out 3 _ dv3
    have hl4 : _root_.Go.World.cell? _ ⟨w.heap.size + 1, 4, none⟩ = _ := cell_blk GB.out 4 _ dv4
    have hl5 : _root_.Go.World.cell? _ ⟨w.heap.size + 1, 5, none⟩ = _ := cell_blk GB.out 5 _ dv5
    have hl6 : _root_.Go.World.cell? _ ⟨w.heap.size + 1, 6, none⟩ = _ := cell_blk GB.out 6 _ dv6
    refine bodyPost_ret (v := .tuple #[.agg (devC ({ d with queue := d.queue.eraseIdx kn, table := (putT d.table d.room x), done := (insI x.seq d.done) } : Dev) a7 cap7 a6 cap6 a10 cap10 la lc), .slice none 0 0, .int .i64 0]) (by simp [results, Try.results14, go_sem, devC, hl0, hl1, hl2, hl3, hl4, hl5, hl6]) rfl ?_
    exact ⟨_, _, rfl, FD.out.1, acks_nil, FD.out.2⟩
theorem do_p2 (d : Dev) (kn : Nat) (x : Wr) (ta qa da la : Option Addr) (tc qc dc lc : Nat) (M : Nat → Prop) (w : World) (h : DevR w M d ta tc qa qc da dc la lc) (hM : ∀ i, M i → i < w.heap.size) (hk : d.queue[kn]? = some x) (hr : rdyB d.queue kn = true)
    (hql : d.queue.length ≤ 1000) (htl : d.table.length ≤ 1000) (hdl : d.done.length ≤ 1000) (hll : d.lost.length ≤ 1000) (hp : ∀ x ∈ d.queue, -9223372036854775808 ≤ x.rule.pri ∧ x.rule.pri ≤ 9223372036854775807) (hdt : DecT d.table) (hrm : (d.table.length : Int) ≤ d.room) (hdi : IncI d.done) (hsq : x.seq ∉ d.done) (hlo : hasI d.lost x.seq = false) (hpk : putOk d.table d.room x = true) (he : earlyW d x = false) :
    Calls Try.prog 14 #[.agg (devC d ta tc qa qc da dc la lc), .int .i64 kn] w (DoPost M w ({ d with queue := d.queue.eraseIdx kn, table := (putT d.table d.room x), done := (insI x.seq d.done) }) ([⟨x.ep, x.seq, 0⟩])) := by
  obtain ⟨qb, qo, rfl, _, hc0⟩ := wr_at h.rq hk
  have hkl := (List.getElem?_eq_some_iff.1 hk).1
  have hki : (kn : Int) < d.queue.length := by omega
  have KB := Lib.hid (((Kept.refl NoM w).alloc (.cells (devC d ta tc (some ⟨qb, qo, none⟩) qc da dc la lc) 27)).alloc (.cells devZC 27))
  have B0 := Lib.hid (blk_old (blk_new w (.cells (devC d ta tc (some ⟨qb, qo, none⟩) qc da dc la lc) 27)) (.cells devZC 27))
  have B4 := Lib.hid (blk_new' (w.alloc (.cells (devC d ta tc (some ⟨qb, qo, none⟩) qc da dc la lc) 27)) (.cells devZC 27) (w.heap.size + 1) (by simp))
  have RDY := Lib.hid (ready_ok d ta (some ⟨qb, qo, none⟩) da la tc qc dc lc M _ (h.rq.kept KB.out.of_no (fun _ _ x => x)) (by omega) hp)
  have HC0 := Lib.hid (rangeAt_kept (M := NoM) hc0 (Kept.refl _ _) (fun x => x))
  have HH := Lib.hid h
  have HM := Lib.hid hM
  have HKR := Lib.hid (hasI_iff.2 (rdyTo_mem hk hr))
  have hle : d.queue.length - 1 = (d.queue.eraseIdx kn).length := by rw [List.length_eraseIdx, if_pos hkl]
  have hw1 : IntKind.i64.wrap ((kn : Int) + 1) = (kn : Int) + 1 := IntWalk.i64_in _ (by omega)
  have HLE := Lib.hid hle
  have HQL := Lib.hid (show d.queue.length ≤ 1000000 by omega)
  have HDT := Lib.hid hdt
  have HDI := Lib.hid hdi
  have HSQ := Lib.hid hsq
  clear h hM hc0 hr hp hdt hdi hsq hle
  have HLO := Lib.hid hlo
  have HPK := Lib.hid hpk
  have HE := Lib.hid (show earlyW ({ d with queue := d.queue.eraseIdx kn, table := (putT d.table d.room x), done := (insI x.seq d.done) } : Dev) x = false from he)
  clear hlo he hpk
  have HIN := Lib.hid (insI_pos HDI.out HSQ.out)
  have hpo := posI_le x.seq d.done
  go_enter Try.func14, Try.ntmps14
  go_wp2_with (first
      | (refine wpList_alloc_Z rfl 27 rfl _ (devZ _) ?_)
      | (refine wpList_alloc_Z rfl 41 rfl _ (wrZ _) ?_)
      | (refine wpList_alloc_Z rfl 60 rfl _ (akZ _) ?_)
      | (refine wpList_load_big bigDev rfl _ rfl w.heap.size 0 (devC d ta tc (some ⟨qb, qo, none⟩) qc da dc la lc) rfl (range_blk B0.out) rfl ?_)
      | (refine wpList_load_big bigWr rfl _ rfl qb (qo + kn * 26) (wrC x) rfl HC1.out rfl ?_)
      | (refine wpList_store_bign bigWr rfl _ _ rfl _ rfl rfl rfl rfl rfl (wr1 x) ?_)
      | (refine wpList_store_bign (cs := akC x 0) bigAk rfl _ _ rfl w4.heap.size (by simp) rfl rfl rfl rfl (ak1 x 0) ?_)
      | (go_at_call 13; refine RDY.out.mono ?_; rintro e w1 ⟨ra, rn, rcc, RO, rfl, hO, hN, k1⟩; have R1 := Lib.hid (hO.rd (M := NoM) (fun _ _ x => x)); have K1 := Lib.hid (KB.out.trans k1); have C0 := Lib.hid (k1.blk B0.out (fun x => x)); have C4 := Lib.hid (k1.blk B4.out (fun x => x)); have HC1 := Lib.hid (rangeAt_kept HC0.out K1.out (fun x => x)); have t3 := cell_blk C0.out 3 _ dv3; have hz1 := lt_of_block C4.out; have D2 := Lib.hid (blk_old C0.out (.cells (wrC x) 41)); have Z2 := Lib.hid (blk_old C4.out (.cells (wrC x) 41)); have s3 := cell_blk D2.out 3 _ dv3; have KA2 := Lib.hid (K1.out.alloc (.cells (wrC x) 41)); have X2 := Lib.hid (blk_new w1 (.cells (wrC x) 41)); clear hO hN k1 RDY)
      | (go_at_call 47; refine (hasints_ok _ (rdyTo d.queue d.queue.length) NoM kn _ R1.out (by have := rdyTo_len d.queue d.queue.length; omega)).mono ?_; rw [HKR.out]; rintro e w2 ⟨rfl, rfl⟩; clear R1 HKR)
      | (go_at_call 49; refine (clonew_ok _ d.queue M _ (HH.out.rq.kept KA2.out.of_no (fun _ _ x => x)) (by omega)).mono ?_; rintro e w3 ⟨a5, cap5, O5, rfl, q1, q2, q3⟩; have Q1 := Lib.hid q1; have Q2 := Lib.hid q2; have Q3 := Lib.hid q3; clear q1 q2 q3)
      | (go_at_call 48; refine (delw_ok _ d.queue kn w3 Q1.out hkl (by omega)).mono ?_; rw [HLE.out]; rintro e w4 ⟨a6, cap6, rfl, q4, q5⟩; have Q4 := Lib.hid q4; have Q5 := Lib.hid q5; have K34 := Lib.hid (Q3.out.trans' q5 (fun i hi e => newO_no Q2.out i hi e)); have D4 := Lib.hid (K34.out.blk D2.out (fun x => x)); have X4 := Lib.hid (K34.out.blk X2.out (fun x => x)); have y3 := cell_blk D4.out 3 _ dv3; have z3 := free_blk D4.out 3; have hx2 : w1.heap.size + 1 ≤ w4.heap.size := (by have := K34.out.size; simpa using this); have X5 := Lib.hid (blk_set_ne (i := 3) X4.out (show w1.heap.size ≠ w.heap.size by omega) (.slice a6 (d.queue.eraseIdx kn).length cap6)); have v0 := cell_blk X5.out 0 _ (wrC_0 x); have v1 := cell_blk X5.out 1 _ (wrC_1 x); have S0 := Lib.hid (DoSt.start HM.out HH.out D2.out Z2.out K1.out (by omega) Q3.out Q2.out Q5.out Q4.out rfl); have u5 := cell_blk S0.out.hd 5 _ dv5; have u1 := cell_blk S0.out.hx 1 _ (wrC_1 x); clear q4 q5))
  refine (hasints_ok _ d.lost _ x.seq _ S0.out.rd.rl (by omega)).mono ?_
  rw [HLO.out]
  rintro e w5 ⟨rfl, rfl⟩
  clear t3 s3 y3 z3 v0 v1 u5 u1 B0 B4 KB C0 C4 D2 Z2 X2 KA2 Q1 Q2 Q3 Q4 Q5 K34 D4 X4 X5 HC0 HC1
  have hz4 : w.heap.size + 2 ≤ w1.heap.size := S0.out.xw
  have hz5 : w1.heap.size < w4.heap.size := S0.out.aw
  generalize (w4.setCell { block := w.heap.size, off := 3 } (Value.slice a6 (d.queue.eraseIdx kn).length cap6)).alloc (Obj.cells #[Value.int IntKind.i64 x.ep, Value.int IntKind.i64 x.seq, Value.int IntKind.i64 0] 60) = w6 at *
  have HBX := Lib.hid (S0.out.bxlt HM.out)
  have S6 := S0
  clear S0
  have t2 := cell_blk S6.out.hd 2 _ dv2
  have t0 := cell_blk S6.out.hd 0 _ dv0
  have x1 := cell_blk S6.out.hx 1 _ (wrC_1 x)
  go_wp2_with (first
      | (refine wpList_load_big bigWr rfl _ rfl w1.heap.size 0 (wrC x) rfl (range_blk S6.out.hx) rfl ?_)
      | (go_at_call 12; refine (put_ok _ d.table (BX M w.heap.size (w.heap.size + 1) w1.heap.size w4.heap.size) d.room x w6 S6.out.rd.rt HBX.out HDT.out hrm (by omega)).mono ?_; rw [HPK.out]; rintro e w7 ⟨a7, cap7, rfl, q1, q2⟩; have S7 := Lib.hid (S6.out.kept q2); have S8 := Lib.hid (S7.out.setT q1); have y2 := cell_blk S7.out.hd 2 _ dv2; have z2 := free_blk S7.out.hd 2; have s4 := cell_blk S8.out.hd 4 _ dv4; have x1 := cell_blk S8.out.hx 1 _ (wrC_1 x); clear q1 q2)
      | (go_at_call 50; refine (bsi_ok _ d.done _ x.seq _ S8.out.rd.rd HDI.out (by omega)).mono ?_; rintro e w9 ⟨b9, rfl, rfl⟩))
  generalize (w7.setCell ⟨w.heap.size, 2, none⟩ (.slice a7 (putT d.table d.room x).length cap7)) = w8 at *
  clear y2 z2 t2 t0
  refine wp_region_par 7 [] [] [] [] [] (fun wx => Kept NoM w8 wx)
        [fun v _ => v = .pointer (some ⟨w.heap.size, 4, none⟩), fun v _ => v = .slice da d.done.length dc, fun v wx => ∃ a8 cap8 O8, v = .slice a8 d.done.length cap8 ∧ OwnS wx O8 3 1 EInt (.slice a8 d.done.length cap8) d.done ∧ ∀ o, O8 = some o → w8.heap.size ≤ o, fun v _ => v = .int .i64 (posI x.seq d.done), fun v _ => v = .pointer (some ⟨w1.heap.size, 1, none⟩), fun v _ => v = .int .i64 x.seq, fun v wx => ∃ b, (v = .slice (some ⟨b, 0, none⟩) 1 1 ∧ w8.heap.size ≤ b) ∧ wx.heap[b]? = some (.cells #[.int .i64 x.seq] 3 (0, 0))] (by kernel_rfl) (by kernel_rfl) (by kernel_rfl) (Kept.refl NoM w8).drew (inits_nil) ?_ ?_
  · intro i hi9
    have hst := stab_all (posts := [fun v _ => v = .pointer (some ⟨w.heap.size, 4, none⟩), fun v _ => v = .slice da d.done.length dc, fun v wx => ∃ a8 cap8 O8, v = .slice a8 d.done.length cap8 ∧ OwnS wx O8 3 1 EInt (.slice a8 d.done.length cap8) d.done ∧ ∀ o, O8 = some o → w8.heap.size ≤ o, fun v _ => v = .int .i64 (posI x.seq d.done), fun v _ => v = .pointer (some ⟨w1.heap.size, 1, none⟩), fun v _ => v = .int .i64 x.seq, fun v wx => ∃ b, (v = .slice (some ⟨b, 0, none⟩) 1 1 ∧ w8.heap.size ≤ b) ∧ wx.heap[b]? = some (.cells #[.int .i64 x.seq] 3 (0, 0))])        (stab_cons (stab_const _) (stab_cons (stab_const _) (stab_cons (fun _ _ _ k ⟨a8, cap8, O8, q1, q2, q3⟩ => ⟨a8, cap8, O8, q1, q2.kept k (fun _ _ x => x) (fun _ _ x => x), q3⟩) (stab_cons (stab_const _) (stab_cons (stab_const _) (stab_cons (stab_const _) (stab_cons (stab_blk (fun b v => v = .slice (some ⟨b, 0, none⟩) 1 1 ∧ w8.heap.size ≤ b) (fun b => b) (fun b => .cells #[.int .i64 x.seq] 3 (0, 0))) stab_nil)))))))
    have hist := init_stab (inits := []) (fun p h => by cases h)
    have HST := Lib.hid hst
    have HIST := Lib.hid hist
    clear hst hist
    rcases (show i = 0 ∨ i = 1 ∨ i = 2 ∨ i = 3 ∨ i = 4 ∨ i = 5 ∨ i = 6 by omega) with rfl | rfl | rfl | rfl | rfl | rfl | rfl
    · refine asks_intro ?_; intro o ho a wx hc hout hp hi R hR; cases ho
      have e2 : a.tmps[2]? = some (.pointer (some ⟨w.heap.size, 0, none⟩)) := hout 2 rfl
      go_simp
      exact hR _ _ hc rfl (fun _ _ _ _ _ u h => h) (fun _ _ h => h)
    · refine asks_intro ?_; intro o ho a wx hc hout hp hi R hR; cases ho
      have e61 : a.tmps[61]?.getD undef = .pointer (some ⟨w.heap.size, 4, none⟩) := hp 0 (by omega) rfl
      have y4 := cell_blk (hc.blk S8.out.hd (fun x => x)) 4 _ dv4
      go_simp
      exact hR _ _ hc rfl (fun _ _ _ _ _ u h => h) (fun _ _ h => h)
    · refine asks_intro ?_; intro o ho a wx hc hout hp hi R hR; cases ho
      have e62 : a.tmps[62]?.getD undef = .slice da d.done.length dc := hp 1 (by omega) rfl
      go_simp
      refine (clonei_ok _ d.done (BX M w.heap.size (w.heap.size + 1) w1.heap.size w4.heap.size) wx (S8.out.rd.rd.kept hc.of_no (fun _ _ x => x)) (by omega)).mono ?_
      rintro e w2 ⟨a8, cap8, O8, rfl, q1, q2, q3⟩
      exact ⟨_, rfl, hR _ _ (hc.trans q3) ⟨a8, cap8, O8, rfl, q1, fun o ho => by rcases q2 with q2 | ⟨g2, q2, q4⟩; exact absurd (q2.symm.trans ho) (by simp); exact Nat.le_trans hc.size (by rw [ho] at q2; cases q2; exact q4)⟩ (fun j _ _ _ _ u h => HST.out j u _ _ q3 h) (fun j _ h => HIST.out j _ _ q3 h)⟩
    · refine asks_intro ?_; intro o ho a wx hc hout hp hi R hR; cases ho
      have e10 : a.tmps[10]? = some (.int .i64 (posI x.seq d.done)) := hout 10 rfl
      go_simp
      exact hR _ _ hc rfl (fun _ _ _ _ _ u h => h) (fun _ _ h => h)
    · refine asks_intro ?_; intro o ho a wx hc hout hp hi R hR; cases ho
      have e7 : a.tmps[7]? = some (.pointer (some ⟨w1.heap.size, 0, none⟩)) := hout 7 rfl
      go_simp
      exact hR _ _ hc rfl (fun _ _ _ _ _ u h => h) (fun _ _ h => h)
    · refine asks_intro ?_; intro o ho a wx hc hout hp hi R hR; cases ho
      have e65 : a.tmps[65]?.getD undef = .pointer (some ⟨w1.heap.size, 1, none⟩) := hp 4 (by omega) rfl
      have y1 := cell_blk (hc.blk S8.out.hx (fun x => x)) 1 _ (wrC_1 x)
      go_simp
      exact hR _ _ hc rfl (fun _ _ _ _ _ u h => h) (fun _ _ h => h)
    · refine asks_intro ?_; intro o ho a wx hc hout hp hi R hR; cases ho
      have e66 : a.tmps[66]?.getD undef = .int .i64 x.seq := hp 5 (by omega) rfl
      go_simp
      exact hR _ _ (hc.alloc _) ⟨_, ⟨rfl, hc.size⟩, blk_new _ _⟩ (fun j _ _ _ _ u h => HST.out j u _ _ ((Kept.refl _ _).alloc _) h) (fun j _ h => HIST.out j _ _ ((Kept.refl _ _).alloc _) h)
  · intro vs w' hc hp
    have e61 : vs 0 = .pointer (some ⟨w.heap.size, 4, none⟩) := hp 0 (by omega) rfl
    have e62 : vs 1 = .slice da d.done.length dc := hp 1 (by omega) rfl
    obtain ⟨a8, cap8, O8, e63, o8, n8⟩ : ∃ a8 cap8 O8, vs 2 = .slice a8 d.done.length cap8 ∧ OwnS w' O8 3 1 EInt (.slice a8 d.done.length cap8) d.done ∧ ∀ o, O8 = some o → w8.heap.size ≤ o := hp 2 (by omega) rfl
    have e64 : vs 3 = .int .i64 (posI x.seq d.done) := hp 3 (by omega) rfl
    have e65 : vs 4 = .pointer (some ⟨w1.heap.size, 1, none⟩) := hp 4 (by omega) rfl
    have e66 : vs 5 = .int .i64 x.seq := hp 5 (by omega) rfl
    obtain ⟨b, e67, hb67⟩ : ∃ b, (vs 6 = .slice (some ⟨b, 0, none⟩) 1 1 ∧ w8.heap.size ≤ b) ∧ w'.heap[b]? = some (.cells #[.int .i64 x.seq] 3 (0, 0)) := hp 6 (by omega) rfl
    simp only [List.take_succ_cons, List.take_zero, List.drop_succ_cons, List.drop_zero, putAll, Act.put, List.setIfInBounds_toArray, List.set_cons_zero, List.set_cons_succ, Nat.reduceAdd, e61, e62, e64, e65, e66]
    obtain ⟨e67, hsb⟩ := e67
    rw [e63, e67]
    change wpList _ _ _ _ _ _
    have HO8 := Lib.hid o8
    have HN8 := Lib.hid n8
    have HC8 := Lib.hid hc
    have HV8 := Lib.hid hb67
    clear hc hp o8 n8 hb67
    generalize w' = we at *
    go_wp2_with (first       | (go_at_call 51; go_loud (refine (insi_ok (M := NoM) _ d.done (posI x.seq d.done) x.seq b we HO8.out hpo (by omega) HV8.out (fun hh => own_ne HO8.out HV8.out HSQ.out (by omega))).mono ?_; rw [← HIN.out]; rintro e w10 ⟨a10, cap10, O10, rfl, q1, q2, q3⟩; have S10 := Lib.hid (S8.out.kept (HC8.out.trans' q3 (fun i hi e => absurd (HN8.out _ e.symm) (by omega)))); have S11 := Lib.hid (S10.out.setDn (by rw [len_insI]) (S8.out.rdn HM.out q1 (newO_ge HN8.out HC8.out.size q2))); have y4 := cell_blk S10.out.hd 4 _ dv4; have z4 := free_blk S10.out.hd 4; clear q1 q2 q3))       | (refine wpList_load_big bigDev rfl _ rfl w.heap.size 0 (devC ({ d with queue := d.queue.eraseIdx kn, table := (putT d.table d.room x), done := (insI x.seq d.done) } : Dev) a7 cap7 a6 cap6 a10 cap10 la lc) rfl (range_blk (by first | exact S12.out.hd | exact S11.out.hd)) rfl ?_)       | (refine wpList_load_big bigWr rfl _ rfl w1.heap.size 0 (wrC x) rfl (range_blk S11.out.hx) rfl ?_)       | (go_at_call 53; refine (early_ok ({ d with queue := d.queue.eraseIdx kn, table := (putT d.table d.room x), done := (insI x.seq d.done) } : Dev) x a7 a6 a10 la cap7 cap6 cap10 lc _).mono ?_; rw [HE.out]; rintro e w12 ⟨rfl, k4⟩; have S12 := Lib.hid (S11.out.kept k4); clear k4))
    refine wp_region_par 4 [] [] [] [] [] (fun wx => CF w12 (w.heap.size + 1) wx)
          [fun v _ => v = .agg (devC ({ d with queue := d.queue.eraseIdx kn, table := (putT d.table d.room x), done := (insI x.seq d.done) } : Dev) a7 cap7 a6 cap6 a10 cap10 la lc), fun v _ => v = .agg (akC x 0), fun v wx => ∃ b, (v = .slice (some ⟨b, 0, none⟩) 1 1 ∧ w12.heap.size ≤ b) ∧ wx.heap[b]? = some (.cells (akC x 0) 60 (0, 0)), fun _ wx => wx.heap[w.heap.size + 1]? = some (.cells (devC ({ d with queue := d.queue.eraseIdx kn, table := (putT d.table d.room x), done := (insI x.seq d.done) } : Dev) a7 cap7 a6 cap6 a10 cap10 la lc) 27 (0, 0))] (by kernel_rfl) (by kernel_rfl) (by kernel_rfl) (CF.refl rfl S12.out.hz).drew (inits_nil) ?_ ?_
    · intro i hi9
      have hst := stab_all (posts := [fun v _ => v = .agg (devC ({ d with queue := d.queue.eraseIdx kn, table := (putT d.table d.room x), done := (insI x.seq d.done) } : Dev) a7 cap7 a6 cap6 a10 cap10 la lc), fun v _ => v = .agg (akC x 0), fun v wx => ∃ b, (v = .slice (some ⟨b, 0, none⟩) 1 1 ∧ w12.heap.size ≤ b) ∧ wx.heap[b]? = some (.cells (akC x 0) 60 (0, 0)), fun _ wx => wx.heap[w.heap.size + 1]? = some (.cells (devC ({ d with queue := d.queue.eraseIdx kn, table := (putT d.table d.room x), done := (insI x.seq d.done) } : Dev) a7 cap7 a6 cap6 a10 cap10 la lc) 27 (0, 0))])        (stab_cons (stab_const _) (stab_cons (stab_const _) (stab_cons (stab_blk (fun b v => v = .slice (some ⟨b, 0, none⟩) 1 1 ∧ w12.heap.size ≤ b) (fun b => b) (fun b => .cells (akC x 0) 60 (0, 0))) (stab_cons (fun _ _ _ k h => k.blk h (fun x => x)) stab_nil))))
      have hist := init_stab (inits := []) (fun p h => by cases h)
      have HST := Lib.hid hst
      have HIST := Lib.hid hist
      clear hst hist
      rcases (show i = 0 ∨ i = 1 ∨ i = 2 ∨ i = 3 by omega) with rfl | rfl | rfl | rfl
      · refine asks_intro ?_; intro o ho a wx hc hout hp hi R hR; cases ho
        have e2 : a.tmps[2]? = some (.pointer (some ⟨w.heap.size, 0, none⟩)) := hout 2 rfl
        refine gives_load_big bigDev (.tmp 2) rfl w.heap.size 0 (devC ({ d with queue := d.queue.eraseIdx kn, table := (putT d.table d.room x), done := (insI x.seq d.done) } : Dev) a7 cap7 a6 cap6 a10 cap10 la lc) (by go_simp) (range_blk (hc.blk S12.out.hd (by omega))) rfl ?_
        exact hR _ _ hc rfl (fun _ _ _ _ _ u h => h) (fun _ _ h => h)
      · refine asks_intro ?_; intro o ho a wx hc hout hp hi R hR; cases ho
        have e8 : a.tmps[8]? = some (.pointer (some ⟨w4.heap.size, 0, none⟩)) := hout 8 rfl
        refine gives_load_big bigAk (.tmp 8) rfl w4.heap.size 0 (akC x 0) (by go_simp) (range_blk (hc.blk S12.out.ha (by omega))) rfl ?_
        exact hR _ _ hc rfl (fun _ _ _ _ _ u h => h) (fun _ _ h => h)
      · refine asks_intro ?_; intro o ho a wx hc hout hp hi R hR; cases ho
        have e76 : a.tmps[76]?.getD undef = .agg (akC x 0) := hp 1 (by omega) rfl
        go_simp
        exact hR _ _ (hc.alloc _) ⟨_, ⟨rfl, hc.1.size⟩, blk_new _ _⟩ (fun j _ _ _ _ u h => HST.out j u _ _ ((Kept.refl _ _).alloc _) h) (fun j _ h => HIST.out j _ _ ((Kept.refl _ _).alloc _) h)
      · refine asks_intro ?_; intro o ho a wx hc hout hp hi R hR; cases ho
        have e75 : a.tmps[75]?.getD undef = .agg (devC ({ d with queue := d.queue.eraseIdx kn, table := (putT d.table d.room x), done := (insI x.seq d.done) } : Dev) a7 cap7 a6 cap6 a10 cap10 la lc) := hp 0 (by omega) rfl
        have e4 : a.tmps[4]? = some (.pointer (some ⟨w.heap.size + 1, 0, none⟩)) := hout 4 rfl
        obtain ⟨hck, z9, hz7, hz9⟩ := hc
        refine gives_store_bigb (cs := devC ({ d with queue := d.queue.eraseIdx kn, table := (putT d.table d.room x), done := (insI x.seq d.done) } : Dev) a7 cap7 a6 cap6 a10 cap10 la lc) bigDev (.tmp 4) (.tmp 75) rfl (w.heap.size + 1) (by go_simp) (by go_simp) hz9 hz7 rfl (dev1 _ _ _ _ _ _ _ _ _) ?_
        refine hR _ _ (CF.put ⟨hck, z9, hz7, hz9⟩ _ rfl) (putB_blk _ _ _ _ (lt_of_block hz9)) (fun j hj hne hcn hwf u h => ?_) (fun q hq h => ?_)
        · rcases (show j = 0 ∨ j = 1 ∨ j = 2 ∨ j = 3 by omega) with rfl | rfl | rfl | rfl <;> first | exact h | exact absurd hcn (by decide) | exact absurd rfl hne | (obtain ⟨b, ⟨q1, q2⟩, q3⟩ := h; have q2 : w12.heap.size ≤ b := q2; have hz9 := S12.out.bxlt HM.out _ (.inr (.inr (.inl rfl))); exact ⟨b, ⟨q1, q2⟩, (putB_blk_ne _ _ _ _ _ (by omega)).trans q3⟩)
        · trivial
    · intro vs w' hc hp
      have e75 : vs 0 = .agg (devC ({ d with queue := d.queue.eraseIdx kn, table := (putT d.table d.room x), done := (insI x.seq d.done) } : Dev) a7 cap7 a6 cap6 a10 cap10 la lc) := hp 0 (by omega) rfl
      have e76 : vs 1 = .agg (akC x 0) := hp 1 (by omega) rfl
      obtain ⟨b, e77, hb77⟩ : ∃ b, (vs 2 = .slice (some ⟨b, 0, none⟩) 1 1 ∧ w12.heap.size ≤ b) ∧ w'.heap[b]? = some (.cells (akC x 0) 60 (0, 0)) := hp 2 (by omega) rfl
      obtain ⟨_, hbg3⟩ : ∃ _ : Value, w'.heap[w.heap.size + 1]? = some (.cells (devC ({ d with queue := d.queue.eraseIdx kn, table := (putT d.table d.room x), done := (insI x.seq d.done) } : Dev) a7 cap7 a6 cap6 a10 cap10 la lc) 27 (0, 0)) := hp 3 (by omega) rfl
      simp only [List.take_succ_cons, List.take_zero, List.drop_succ_cons, List.drop_zero, putAll, Act.put, List.setIfInBounds_toArray, List.set_cons_zero, List.set_cons_succ, Nat.reduceAdd, e75, e76]
      obtain ⟨e77, hsb⟩ := e77
      rw [e77]
      change wpList _ _ _ _ _ _
      have HB4 := Lib.hid hbg3
      have HAK := Lib.hid hb77
      have HC9 := Lib.hid hc
      clear hbg3 hb77 hc hp
      go_wp2_with fail
      have hl0 : _root_.Go.World.cell? _ ⟨w.heap.size + 1, 0, none⟩ = _ := cell_blk HB4.out 0 _ dv0
      have hl1 : _root_.Go.World.cell? _ ⟨w.heap.size + 1, 1, none⟩ = _ := cell_blk HB4.out 1 _ dv1
      have hl2 : _root_.Go.World.cell? _ ⟨w.heap.size + 1, 2, none⟩ = _ := cell_blk HB4.out 2 _ dv2
      have hl3 : _root_.Go.World.cell? _ ⟨w.heap.size + 1, 3, none⟩ = _ := cell_blk HB4.out 3 _ dv3
      have hl4 : _root_.Go.World.cell? _ ⟨w.heap.size + 1, 4, none⟩ = _ := cell_blk HB4.out 4 _ dv4
      have hl5 : _root_.Go.World.cell? _ ⟨w.heap.size + 1, 5, none⟩ = _ := cell_blk HB4.out 5 _ dv5
      have hl6 : _root_.Go.World.cell? _ ⟨w.heap.size + 1, 6, none⟩ = _ := cell_blk HB4.out 6 _ dv6
      refine bodyPost_ret (v := .tuple #[.agg (devC ({ d with queue := d.queue.eraseIdx kn, table := (putT d.table d.room x), done := (insI x.seq d.done) } : Dev) a7 cap7 a6 cap6 a10 cap10 la lc), .slice (some ⟨b, 0, none⟩) 1 1, .int .i64 0]) (by simp [results, Try.results14, go_sem, devC, hl0, hl1, hl2, hl3, hl4, hl5, hl6]) rfl ?_
      have FD := S12.out.dev HC9.out.1
      exact ⟨_, _, rfl, FD.1, acks_one (a := ⟨x.ep, x.seq, 0⟩) HAK.out HM.out (by have := S12.out.kp.size; omega), FD.2⟩
theorem do_f2 (d : Dev) (kn : Nat) (x : Wr) (ta qa da la : Option Addr) (tc qc dc lc : Nat) (M : Nat → Prop) (w : World) (h : DevR w M d ta tc qa qc da dc la lc) (hM : ∀ i, M i → i < w.heap.size) (hk : d.queue[kn]? = some x) (hr : rdyB d.queue kn = true)
    (hql : d.queue.length ≤ 1000) (htl : d.table.length ≤ 1000) (hdl : d.done.length ≤ 1000) (hll : d.lost.length ≤ 1000) (hp : ∀ x ∈ d.queue, -9223372036854775808 ≤ x.rule.pri ∧ x.rule.pri ≤ 9223372036854775807) (hdt : DecT d.table) (hrm : (d.table.length : Int) ≤ d.room) (hdi : IncI d.done) (hsq : x.seq ∉ d.done) (hlo : hasI d.lost x.seq = false) (hpk : putOk d.table d.room x = false) (he : earlyW d x = false) :
    Calls Try.prog 14 #[.agg (devC d ta tc qa qc da dc la lc), .int .i64 kn] w (DoPost M w ({ d with queue := d.queue.eraseIdx kn, table := (putT d.table d.room x) }) ([⟨x.ep, x.seq, 12⟩])) := by
  obtain ⟨qb, qo, rfl, _, hc0⟩ := wr_at h.rq hk
  have hkl := (List.getElem?_eq_some_iff.1 hk).1
  have hki : (kn : Int) < d.queue.length := by omega
  have KB := Lib.hid (((Kept.refl NoM w).alloc (.cells (devC d ta tc (some ⟨qb, qo, none⟩) qc da dc la lc) 27)).alloc (.cells devZC 27))
  have B0 := Lib.hid (blk_old (blk_new w (.cells (devC d ta tc (some ⟨qb, qo, none⟩) qc da dc la lc) 27)) (.cells devZC 27))
  have B4 := Lib.hid (blk_new' (w.alloc (.cells (devC d ta tc (some ⟨qb, qo, none⟩) qc da dc la lc) 27)) (.cells devZC 27) (w.heap.size + 1) (by simp))
  have RDY := Lib.hid (ready_ok d ta (some ⟨qb, qo, none⟩) da la tc qc dc lc M _ (h.rq.kept KB.out.of_no (fun _ _ x => x)) (by omega) hp)
  have HC0 := Lib.hid (rangeAt_kept (M := NoM) hc0 (Kept.refl _ _) (fun x => x))
  have HH := Lib.hid h
  have HM := Lib.hid hM
  have HKR := Lib.hid (hasI_iff.2 (rdyTo_mem hk hr))
  have hle : d.queue.length - 1 = (d.queue.eraseIdx kn).length := by rw [List.length_eraseIdx, if_pos hkl]
  have hw1 : IntKind.i64.wrap ((kn : Int) + 1) = (kn : Int) + 1 := IntWalk.i64_in _ (by omega)
  have HLE := Lib.hid hle
  have HQL := Lib.hid (show d.queue.length ≤ 1000000 by omega)
  have HDT := Lib.hid hdt
  have HDI := Lib.hid hdi
  have HSQ := Lib.hid hsq
  clear h hM hc0 hr hp hdt hdi hsq hle
  have HLO := Lib.hid hlo
  have HPK := Lib.hid hpk
  have HE := Lib.hid (show earlyW ({ d with queue := d.queue.eraseIdx kn, table := (putT d.table d.room x) } : Dev) x = false from he)
  clear hlo he hpk
  go_enter Try.func14, Try.ntmps14
  go_wp2_with (first
      | (refine wpList_alloc_Z rfl 27 rfl _ (devZ _) ?_)
      | (refine wpList_alloc_Z rfl 41 rfl _ (wrZ _) ?_)
      | (refine wpList_alloc_Z rfl 60 rfl _ (akZ _) ?_)
      | (refine wpList_load_big bigDev rfl _ rfl w.heap.size 0 (devC d ta tc (some ⟨qb, qo, none⟩) qc da dc la lc) rfl (range_blk B0.out) rfl ?_)
      | (refine wpList_load_big bigWr rfl _ rfl qb (qo + kn * 26) (wrC x) rfl HC1.out rfl ?_)
      | (refine wpList_store_bign bigWr rfl _ _ rfl _ rfl rfl rfl rfl rfl (wr1 x) ?_)
      | (refine wpList_store_bign (cs := akC x 0) bigAk rfl _ _ rfl w4.heap.size (by simp) rfl rfl rfl rfl (ak1 x 0) ?_)
      | (go_at_call 13; refine RDY.out.mono ?_; rintro e w1 ⟨ra, rn, rcc, RO, rfl, hO, hN, k1⟩; have R1 := Lib.hid (hO.rd (M := NoM) (fun _ _ x => x)); have K1 := Lib.hid (KB.out.trans k1); have C0 := Lib.hid (k1.blk B0.out (fun x => x)); have C4 := Lib.hid (k1.blk B4.out (fun x => x)); have HC1 := Lib.hid (rangeAt_kept HC0.out K1.out (fun x => x)); have t3 := cell_blk C0.out 3 _ dv3; have hz1 := lt_of_block C4.out; have D2 := Lib.hid (blk_old C0.out (.cells (wrC x) 41)); have Z2 := Lib.hid (blk_old C4.out (.cells (wrC x) 41)); have s3 := cell_blk D2.out 3 _ dv3; have KA2 := Lib.hid (K1.out.alloc (.cells (wrC x) 41)); have X2 := Lib.hid (blk_new w1 (.cells (wrC x) 41)); clear hO hN k1 RDY)
      | (go_at_call 47; refine (hasints_ok _ (rdyTo d.queue d.queue.length) NoM kn _ R1.out (by have := rdyTo_len d.queue d.queue.length; omega)).mono ?_; rw [HKR.out]; rintro e w2 ⟨rfl, rfl⟩; clear R1 HKR)
      | (go_at_call 49; refine (clonew_ok _ d.queue M _ (HH.out.rq.kept KA2.out.of_no (fun _ _ x => x)) (by omega)).mono ?_; rintro e w3 ⟨a5, cap5, O5, rfl, q1, q2, q3⟩; have Q1 := Lib.hid q1; have Q2 := Lib.hid q2; have Q3 := Lib.hid q3; clear q1 q2 q3)
      | (go_at_call 48; refine (delw_ok _ d.queue kn w3 Q1.out hkl (by omega)).mono ?_; rw [HLE.out]; rintro e w4 ⟨a6, cap6, rfl, q4, q5⟩; have Q4 := Lib.hid q4; have Q5 := Lib.hid q5; have K34 := Lib.hid (Q3.out.trans' q5 (fun i hi e => newO_no Q2.out i hi e)); have D4 := Lib.hid (K34.out.blk D2.out (fun x => x)); have X4 := Lib.hid (K34.out.blk X2.out (fun x => x)); have y3 := cell_blk D4.out 3 _ dv3; have z3 := free_blk D4.out 3; have hx2 : w1.heap.size + 1 ≤ w4.heap.size := (by have := K34.out.size; simpa using this); have X5 := Lib.hid (blk_set_ne (i := 3) X4.out (show w1.heap.size ≠ w.heap.size by omega) (.slice a6 (d.queue.eraseIdx kn).length cap6)); have v0 := cell_blk X5.out 0 _ (wrC_0 x); have v1 := cell_blk X5.out 1 _ (wrC_1 x); have S0 := Lib.hid (DoSt.start HM.out HH.out D2.out Z2.out K1.out (by omega) Q3.out Q2.out Q5.out Q4.out rfl); have u5 := cell_blk S0.out.hd 5 _ dv5; have u1 := cell_blk S0.out.hx 1 _ (wrC_1 x); clear q4 q5))
  refine (hasints_ok _ d.lost _ x.seq _ S0.out.rd.rl (by omega)).mono ?_
  rw [HLO.out]
  rintro e w5 ⟨rfl, rfl⟩
  clear t3 s3 y3 z3 v0 v1 u5 u1 B0 B4 KB C0 C4 D2 Z2 X2 KA2 Q1 Q2 Q3 Q4 Q5 K34 D4 X4 X5 HC0 HC1
  have hz4 : w.heap.size + 2 ≤ w1.heap.size := S0.out.xw
  have hz5 : w1.heap.size < w4.heap.size := S0.out.aw
  generalize (w4.setCell { block := w.heap.size, off := 3 } (Value.slice a6 (d.queue.eraseIdx kn).length cap6)).alloc (Obj.cells #[Value.int IntKind.i64 x.ep, Value.int IntKind.i64 x.seq, Value.int IntKind.i64 0] 60) = w6 at *
  have HBX := Lib.hid (S0.out.bxlt HM.out)
  have S6 := S0
  clear S0
  have t2 := cell_blk S6.out.hd 2 _ dv2
  have t0 := cell_blk S6.out.hd 0 _ dv0
  have x1 := cell_blk S6.out.hx 1 _ (wrC_1 x)
  go_wp2_with (first
      | (refine wpList_load_big bigWr rfl _ rfl w1.heap.size 0 (wrC x) rfl (range_blk S6.out.hx) rfl ?_)
      | (go_at_call 12; refine (put_ok _ d.table (BX M w.heap.size (w.heap.size + 1) w1.heap.size w4.heap.size) d.room x w6 S6.out.rd.rt HBX.out HDT.out hrm (by omega)).mono ?_; rw [HPK.out]; rintro e w7 ⟨a7, cap7, rfl, q1, q2⟩; have S7 := Lib.hid (S6.out.kept q2); have S8 := Lib.hid (S7.out.setT q1); have y2 := cell_blk S7.out.hd 2 _ dv2; have z2 := free_blk S7.out.hd 2; have e2 := cell_blk S8.out.ha 2 _ rfl; have f2 := free_blk S8.out.ha 2; have S11 := Lib.hid (S8.out.setE 12); clear q1 q2)
      | (refine wpList_load_big bigDev rfl _ rfl w.heap.size 0 (devC ({ d with queue := d.queue.eraseIdx kn, table := (putT d.table d.room x) } : Dev) a7 cap7 a6 cap6 da dc la lc) rfl (range_blk (by first | exact S12.out.hd | exact S11.out.hd)) rfl ?_)
      | (refine wpList_load_big bigWr rfl _ rfl w1.heap.size 0 (wrC x) rfl (range_blk S11.out.hx) rfl ?_)
      | (go_at_call 53; refine (early_ok ({ d with queue := d.queue.eraseIdx kn, table := (putT d.table d.room x) } : Dev) x a7 a6 da la cap7 cap6 dc lc _).mono ?_; rw [HE.out]; rintro e w12 ⟨rfl, k4⟩; have S12 := Lib.hid (S11.out.kept k4); clear k4))
  refine wp_region_par 4 [] [] [] [] [] (fun wx => CF w12 (w.heap.size + 1) wx)
        [fun v _ => v = .agg (devC ({ d with queue := d.queue.eraseIdx kn, table := (putT d.table d.room x) } : Dev) a7 cap7 a6 cap6 da dc la lc), fun v _ => v = .agg (akC x 12), fun v wx => ∃ b, (v = .slice (some ⟨b, 0, none⟩) 1 1 ∧ w12.heap.size ≤ b) ∧ wx.heap[b]? = some (.cells (akC x 12) 60 (0, 0)), fun _ wx => wx.heap[w.heap.size + 1]? = some (.cells (devC ({ d with queue := d.queue.eraseIdx kn, table := (putT d.table d.room x) } : Dev) a7 cap7 a6 cap6 da dc la lc) 27 (0, 0))] (by kernel_rfl) (by kernel_rfl) (by kernel_rfl) (CF.refl rfl S12.out.hz).drew (inits_nil) ?_ ?_
  · intro i hi9
    have hst := stab_all (posts := [fun v _ => v = .agg (devC ({ d with queue := d.queue.eraseIdx kn, table := (putT d.table d.room x) } : Dev) a7 cap7 a6 cap6 da dc la lc), fun v _ => v = .agg (akC x 12), fun v wx => ∃ b, (v = .slice (some ⟨b, 0, none⟩) 1 1 ∧ w12.heap.size ≤ b) ∧ wx.heap[b]? = some (.cells (akC x 12) 60 (0, 0)), fun _ wx => wx.heap[w.heap.size + 1]? = some (.cells (devC ({ d with queue := d.queue.eraseIdx kn, table := (putT d.table d.room x) } : Dev) a7 cap7 a6 cap6 da dc la lc) 27 (0, 0))])        (stab_cons (stab_const _) (stab_cons (stab_const _) (stab_cons (stab_blk (fun b v => v = .slice (some ⟨b, 0, none⟩) 1 1 ∧ w12.heap.size ≤ b) (fun b => b) (fun b => .cells (akC x 12) 60 (0, 0))) (stab_cons (fun _ _ _ k h => k.blk h (fun x => x)) stab_nil))))
    have hist := init_stab (inits := []) (fun p h => by cases h)
    have HST := Lib.hid hst
    have HIST := Lib.hid hist
    clear hst hist
    rcases (show i = 0 ∨ i = 1 ∨ i = 2 ∨ i = 3 by omega) with rfl | rfl | rfl | rfl
    · refine asks_intro ?_; intro o ho a wx hc hout hp hi R hR; cases ho
      have e2 : a.tmps[2]? = some (.pointer (some ⟨w.heap.size, 0, none⟩)) := hout 2 rfl
      refine gives_load_big bigDev (.tmp 2) rfl w.heap.size 0 (devC ({ d with queue := d.queue.eraseIdx kn, table := (putT d.table d.room x) } : Dev) a7 cap7 a6 cap6 da dc la lc) (by go_simp) (range_blk (hc.blk S12.out.hd (by omega))) rfl ?_
      exact hR _ _ hc rfl (fun _ _ _ _ _ u h => h) (fun _ _ h => h)
    · refine asks_intro ?_; intro o ho a wx hc hout hp hi R hR; cases ho
      have e8 : a.tmps[8]? = some (.pointer (some ⟨w4.heap.size, 0, none⟩)) := hout 8 rfl
      refine gives_load_big bigAk (.tmp 8) rfl w4.heap.size 0 (akC x 12) (by go_simp) (range_blk (hc.blk S12.out.ha (by omega))) rfl ?_
      exact hR _ _ hc rfl (fun _ _ _ _ _ u h => h) (fun _ _ h => h)
    · refine asks_intro ?_; intro o ho a wx hc hout hp hi R hR; cases ho
      have e76 : a.tmps[76]?.getD undef = .agg (akC x 12) := hp 1 (by omega) rfl
      go_simp
      exact hR _ _ (hc.alloc _) ⟨_, ⟨rfl, hc.1.size⟩, blk_new _ _⟩ (fun j _ _ _ _ u h => HST.out j u _ _ ((Kept.refl _ _).alloc _) h) (fun j _ h => HIST.out j _ _ ((Kept.refl _ _).alloc _) h)
    · refine asks_intro ?_; intro o ho a wx hc hout hp hi R hR; cases ho
      have e75 : a.tmps[75]?.getD undef = .agg (devC ({ d with queue := d.queue.eraseIdx kn, table := (putT d.table d.room x) } : Dev) a7 cap7 a6 cap6 da dc la lc) := hp 0 (by omega) rfl
      have e4 : a.tmps[4]? = some (.pointer (some ⟨w.heap.size + 1, 0, none⟩)) := hout 4 rfl
      obtain ⟨hck, z9, hz7, hz9⟩ := hc
      refine gives_store_bigb (cs := devC ({ d with queue := d.queue.eraseIdx kn, table := (putT d.table d.room x) } : Dev) a7 cap7 a6 cap6 da dc la lc) bigDev (.tmp 4) (.tmp 75) rfl (w.heap.size + 1) (by go_simp) (by go_simp) hz9 hz7 rfl (dev1 _ _ _ _ _ _ _ _ _) ?_
      refine hR _ _ (CF.put ⟨hck, z9, hz7, hz9⟩ _ rfl) (putB_blk _ _ _ _ (lt_of_block hz9)) (fun j hj hne hcn hwf u h => ?_) (fun q hq h => ?_)
      · rcases (show j = 0 ∨ j = 1 ∨ j = 2 ∨ j = 3 by omega) with rfl | rfl | rfl | rfl <;> first | exact h | exact absurd hcn (by decide) | exact absurd rfl hne | (obtain ⟨b, ⟨q1, q2⟩, q3⟩ := h; have q2 : w12.heap.size ≤ b := q2; have hz9 := S12.out.bxlt HM.out _ (.inr (.inr (.inl rfl))); exact ⟨b, ⟨q1, q2⟩, (putB_blk_ne _ _ _ _ _ (by omega)).trans q3⟩)
      · trivial
  · intro vs w' hc hp
    have e75 : vs 0 = .agg (devC ({ d with queue := d.queue.eraseIdx kn, table := (putT d.table d.room x) } : Dev) a7 cap7 a6 cap6 da dc la lc) := hp 0 (by omega) rfl
    have e76 : vs 1 = .agg (akC x 12) := hp 1 (by omega) rfl
    obtain ⟨b, e77, hb77⟩ : ∃ b, (vs 2 = .slice (some ⟨b, 0, none⟩) 1 1 ∧ w12.heap.size ≤ b) ∧ w'.heap[b]? = some (.cells (akC x 12) 60 (0, 0)) := hp 2 (by omega) rfl
    obtain ⟨_, hbg3⟩ : ∃ _ : Value, w'.heap[w.heap.size + 1]? = some (.cells (devC ({ d with queue := d.queue.eraseIdx kn, table := (putT d.table d.room x) } : Dev) a7 cap7 a6 cap6 da dc la lc) 27 (0, 0)) := hp 3 (by omega) rfl
    simp only [List.take_succ_cons, List.take_zero, List.drop_succ_cons, List.drop_zero, putAll, Act.put, List.setIfInBounds_toArray, List.set_cons_zero, List.set_cons_succ, Nat.reduceAdd, e75, e76]
    obtain ⟨e77, hsb⟩ := e77
    rw [e77]
    change wpList _ _ _ _ _ _
    have HB4 := Lib.hid hbg3
    have HAK := Lib.hid hb77
    have HC9 := Lib.hid hc
    clear hbg3 hb77 hc hp
    go_wp2_with fail
    have hl0 : _root_.Go.World.cell? _ ⟨w.heap.size + 1, 0, none⟩ = _ := cell_blk HB4.out 0 _ dv0
    have hl1 : _root_.Go.World.cell? _ ⟨w.heap.size + 1, 1, none⟩ = _ := cell_blk HB4.out 1 _ dv1
    have hl2 : _root_.Go.World.cell? _ ⟨w.heap.size + 1, 2, none⟩ = _ := cell_blk HB4.out 2 _ dv2
    have hl3 : _root_.Go.World.cell? _ ⟨w.heap.size + 1, 3, none⟩ = _ := cell_blk HB4.out 3 _ dv3
    have hl4 : _root_.Go.World.cell? _ ⟨w.heap.size + 1, 4, none⟩ = _ := cell_blk HB4.out 4 _ dv4
    have hl5 : _root_.Go.World.cell? _ ⟨w.heap.size + 1, 5, none⟩ = _ := cell_blk HB4.out 5 _ dv5
    have hl6 : _root_.Go.World.cell? _ ⟨w.heap.size + 1, 6, none⟩ = _ := cell_blk HB4.out 6 _ dv6
    refine bodyPost_ret (v := .tuple #[.agg (devC ({ d with queue := d.queue.eraseIdx kn, table := (putT d.table d.room x) } : Dev) a7 cap7 a6 cap6 da dc la lc), .slice (some ⟨b, 0, none⟩) 1 1, .int .i64 0]) (by simp [results, Try.results14, go_sem, devC, hl0, hl1, hl2, hl3, hl4, hl5, hl6]) rfl ?_
    have FD := S12.out.dev HC9.out.1
    exact ⟨_, _, rfl, FD.1, acks_one (a := ⟨x.ep, x.seq, 12⟩) HAK.out HM.out (by have := S12.out.kp.size; omega), FD.2⟩
end Go.Proofs.Ytghgegghlefclaa
