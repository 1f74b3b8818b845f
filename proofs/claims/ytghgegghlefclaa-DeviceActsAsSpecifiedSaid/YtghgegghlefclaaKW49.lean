/- Texts that belong together: W49, W50, W51, W52, W53, W54. -/
import Derived.Test.YtghgegghlefclaaKW47
import Derived.Test.YtghgegghlefclaaKW31
set_option linter.unusedVariables false
set_option linter.unusedSimpArgs false
set_option linter.unusedSectionVars false
/- Walks: Receive of the specification. -/
namespace Go.Proofs.Ytghgegghlefclaa
open Go.RowKit
set_option maxHeartbeats 4000000
set_option maxRecDepth 8000
theorem rrecv_wait2 (d : Dev) (x : Wr) (ta qa da la : Option Addr) (tc qc dc lc : Nat) (M : Nat → Prop) (w : World) (h : DevR w M d ta tc qa qc da dc la lc) (hM : ∀ i, M i → i < w.heap.size) (hql : d.queue.length ≤ 1000) (hdl : d.done.length ≤ 1000) (hf : formedB x = true) (hep : x.ep = d.ep) (hh : hasI d.done x.seq = false) (hw : hasSeq d.queue x.seq = true) (he : earlyW d x = false) :
    Calls Try.prog 18 #[.agg (devC d ta tc qa qc da dc la lc), .agg (wrC x)] w (RecvPost M w (d) ([])) := by
  have KB := Lib.hid ((((Kept.refl NoM w).alloc (.cells (devC d ta tc qa qc da dc la lc) 27)).alloc (.cells (wrC x) 41)).alloc (.cells devZC 27))
  have B0 := Lib.hid (blk_old (blk_old (blk_new w (.cells (devC d ta tc qa qc da dc la lc) 27)) (.cells (wrC x) 41)) (.cells devZC 27))
  have B1 := Lib.hid (blk_old (blk_new' (w.alloc (.cells (devC d ta tc qa qc da dc la lc) 27)) (.cells (wrC x) 41) (w.heap.size + 1) (by simp)) (.cells devZC 27))
  have B4 := Lib.hid (blk_new' ((w.alloc (.cells (devC d ta tc qa qc da dc la lc) 27)).alloc (.cells (wrC x) 41)) (.cells devZC 27) (w.heap.size + 2) (by simp))
  have HH := Lib.hid h
  have HM := Lib.hid hM
  have HF := Lib.hid hf
  have FM := Lib.hid (rformed_ok x (((w.alloc (.cells (devC d ta tc qa qc da dc la lc) 27)).alloc (.cells (wrC x) 41)).alloc (.cells devZC 27)))
  clear h hM hf
  have f1 : ¬ x.ep < d.ep := by omega
  have f2 : ¬ x.ep > d.ep := by omega
  clear hep
  have HS := Lib.hid hh
  have HQ := Lib.hid hw
  clear hh hw
  have HE := Lib.hid he
  clear he
  go_enter Try.func18, Try.ntmps18
  go_wp2_with (first
      | (refine wpList_alloc_Z rfl 27 rfl _ (devZ _) ?_)
      | (refine wpList_load_big bigWr rfl _ rfl (w.heap.size + 1) 0 (wrC x) rfl (range_blk B1.out) rfl ?_))
  refine FM.out.mono ?_
  rintro e w1 ⟨e1, k1⟩
  rw [HF.out] at e1
  subst e1
  have K1 := Lib.hid (KB.out.trans k1)
  have C0 := Lib.hid (k1.blk B0.out (fun x => x))
  have C1 := Lib.hid (k1.blk B1.out (fun x => x))
  have C4 := Lib.hid (k1.blk B4.out (fun x => x))
  have hz1 := lt_of_block C4.out
  clear k1 KB FM B0 B1 B4
  have S0 := Lib.hid (BxSt.start (M := M) (A := w1.heap.size) C0.out C4.out C1.out ((HH.out.mono (fun i hi q => by rcases q with q | q | q | q | q; exact q; all_goals omega)).kept K1.out.of_no) K1.out ⟨by omega, by omega, by omega, by omega⟩ ⟨by omega, by omega, by omega, by omega, by omega, by omega⟩ rfl)
  have v0 := cell_blk C1.out 0 _ (wrC_0 x)
  have v1 := cell_blk C1.out 1 _ (wrC_1 x)
  clear C0 C1 C4 HH K1
  go_wp2_with (first
      | (refine wpList_alloc_Z rfl 60 rfl _ (akZ _) ?_)
      | (refine wpList_store_bign (cs := akC x 0) bigAk rfl _ _ rfl w1.heap.size (by simp) rfl rfl rfl rfl (ak1 x 0) ?_; unfold akC; generalize (w1.alloc (.cells #[.int .i64 x.ep, .int .i64 x.seq, .int .i64 0] 60)) = w2 at *; have u0 := cell_blk S0.out.hx 0 _ (wrC_0 x); have u1 := cell_blk S0.out.hx 1 _ (wrC_1 x); have y1 := cell_blk S0.out.hd 1 _ dv1; have y4 := cell_blk S0.out.hd 4 _ dv4)
      | (go_at_call 58; refine (rhas_ok _ d.done (BX M w.heap.size (w.heap.size + 2) (w.heap.size + 1) w1.heap.size) x.seq _ S0.out.rd.rd (by omega)).mono ?_; rw [HS.out]; rintro e wy ⟨rfl, rfl⟩))
  clear u0 u1 y1 y4 v0 v1
  go_loopw [8, 9] (fun t i wr => ∃ k : Nat, k ≤ d.queue.length ∧ i = .int .i64 k ∧ t = .bool (hasSeq (d.queue.take k) x.seq) ∧ Hid (BxSt w M x w.heap.size (w.heap.size + 2) (w.heap.size + 1) w1.heap.size wr (d) 0 ta qa da la tc qc dc lc)) (fun _ i _ => d.queue.length - (intOf i).toNat)
  case atStart => exact ⟨0, Nat.zero_le _, rfl, rfl, S0⟩
  case round =>
    obtain ⟨k, hk, rfl, rfl, SK⟩ := hrel
    have y3 := cell_blk SK.out.hd 3 _ dv3
    by_cases hlt : k < d.queue.length
    · have hki : (k : Int) < d.queue.length := by omega
      obtain ⟨y, hy⟩ := getAt hlt
      obtain ⟨b, off, e1, hMb, hc⟩ := wr_at SK.out.rd.rq hy
      rw [e1] at y3
      have t1 := range_cell hc 1 _ (wrC_1 y)
      have v1 := cell_blk SK.out.hx 1 _ (wrC_1 x)
      have HT := Lib.hid (hasSeq_take (n := x.seq) hy)
      clear hc hMb hy e1
      rcases hB : hasSeq (d.queue.take k) x.seq with _ | _
      · by_cases hs : y.seq = x.seq
        · have HU := Lib.hid (show hasSeq (d.queue.take (k + 1)) x.seq = true by rw [HT.out, hB]; simp [hs])
          have f4 : (y.seq == x.seq) = true := by simpa using hs
          clear hs hB HT
          go_wp2_with fail
          go_quiet (fail)
          go_wp2_with fail
          go_roundw
          case rel => exact ⟨k + 1, by omega, by go_num, by rw [HU.out], Lib.hid (SK.out.kept ((Kept.refl NoM wr).drewN _))⟩
          case measure => simp [intOf]; omega
        · have HU := Lib.hid (show hasSeq (d.queue.take (k + 1)) x.seq = false by rw [HT.out, hB]; simp [hs])
          have f4 : (y.seq == x.seq) = false := by simpa using hs
          clear hs hB HT
          go_wp2_with fail
          go_quiet (fail)
          go_wp2_with fail
          go_roundw
          case rel => exact ⟨k + 1, by omega, by go_num, by rw [HU.out], Lib.hid (SK.out.kept ((Kept.refl NoM wr).drewN _))⟩
          case measure => simp [intOf]; omega
      · have HU := Lib.hid (show hasSeq (d.queue.take (k + 1)) x.seq = true by rw [HT.out, hB]; rfl)
        clear hB HT
        go_wp2_with fail
        go_quiet (fail)
        go_wp2_with fail
        go_roundw
        case rel => exact ⟨k + 1, by omega, by go_num, by rw [HU.out], Lib.hid (SK.out.kept ((Kept.refl NoM wr).drewN _))⟩
        case measure => simp [intOf]; omega
    · obtain rfl : k = d.queue.length := by omega
      have g1 := decide_eq_false (show ¬ ((d.queue.length : Nat) : Int) < d.queue.length by omega)
      have g2 := decide_eq_false (show ¬ d.queue.length < d.queue.length by omega)
      rw [show hasSeq (d.queue.take d.queue.length) x.seq = true by rw [List.take_length]; exact HQ.out]
      go_wp2_with (first | (refine wpList_load_big bigDev rfl _ rfl w.heap.size 0 (devC (d) ta tc qa qc da dc la lc) rfl (range_blk (by first | exact S4.out.hd | exact SK.out.hd)) rfl ?_) | (refine wpList_load_big bigWr rfl _ rfl (w.heap.size + 1) 0 (wrC x) rfl (range_blk SK.out.hx) rfl ?_) | (go_at_call 59; refine (rearly_ok (d) x ta qa da la tc qc dc lc _).mono ?_; rw [HE.out]; rintro e w4 ⟨rfl, k4⟩; have S4 := Lib.hid (SK.out.kept k4); clear k4) | (refine wpList_store_bigb (cs := devC (d) ta tc qa qc da dc la lc) bigDev rfl _ _ rfl (w.heap.size + 2) rfl rfl S4.out.hz rfl rfl (dev1 _ _ _ _ _ _ _ _ _) ?_))
      have GB := Lib.hid (putB_blk w4 (w.heap.size + 2) (devC (d) ta tc qa qc da dc la lc) 27 (lt_of_block S4.out.hz))
      have FD := Lib.hid (S4.out.dev ((Kept.refl (fun i => i = w.heap.size + 2) w4).putM rfl (devC (d) ta tc qa qc da dc la lc) 27))
      generalize putB w4 (w.heap.size + 2) (devC (d) ta tc qa qc da dc la lc) 27 = wx at *
      have hl0 : _root_.Go.World.cell? _ ⟨w.heap.size + 2, 0, none⟩ = _ := cell_blk GB.out 0 _ dv0
      have hl1 : _root_.Go.World.cell? _ ⟨w.heap.size + 2, 1, none⟩ = _ := cell_blk GB.out 1 _ dv1
      have hl2 : _root_.Go.World.cell? _ ⟨w.heap.size + 2, 2, none⟩ = _ := cell_blk GB.out 2 _ dv2
      have hl3 : _root_.Go.World.cell? _ ⟨w.heap.size + 2, 3, none⟩ = _ := cell_blk GB.out 3 _ dv3
      have hl4 : _root_.Go.World.cell? _ ⟨w.heap.size + 2, 4, none⟩ = _ := cell_blk GB.out 4 _ dv4
      have hl5 : _root_.Go.World.cell? _ ⟨w.heap.size + 2, 5, none⟩ = _ := cell_blk GB.out 5 _ dv5
      have hl6 : _root_.Go.World.cell? _ ⟨w.heap.size + 2, 6, none⟩ = _ := cell_blk GB.out 6 _ dv6
      refine bodyPost_ret (v := .tuple #[.agg (devC (d) ta tc qa qc da dc la lc), .slice none 0 0, .int .i64 0]) (by simp [results, Try.results18, go_sem, devC, hl0, hl1, hl2, hl3, hl4, hl5, hl6]) rfl ?_
      exact ⟨_, _, rfl, FD.out.1, acks_nil, FD.out.2⟩
theorem rrecv_full (d : Dev) (x : Wr) (ta qa da la : Option Addr) (tc qc dc lc : Nat) (M : Nat → Prop) (w : World) (h : DevR w M d ta tc qa qc da dc la lc) (hM : ∀ i, M i → i < w.heap.size) (hql : d.queue.length ≤ 1000) (hdl : d.done.length ≤ 1000) (hf : formedB x = true) (hep : x.ep = d.ep) (hh : hasI d.done x.seq = false) (hw : hasSeq d.queue x.seq = false) (hf9 : d.queue.length = 64) :
    Calls Try.prog 18 #[.agg (devC d ta tc qa qc da dc la lc), .agg (wrC x)] w (RecvPost M w (d) ([⟨x.ep, x.seq, 12⟩])) := by
  have KB := Lib.hid ((((Kept.refl NoM w).alloc (.cells (devC d ta tc qa qc da dc la lc) 27)).alloc (.cells (wrC x) 41)).alloc (.cells devZC 27))
  have B0 := Lib.hid (blk_old (blk_old (blk_new w (.cells (devC d ta tc qa qc da dc la lc) 27)) (.cells (wrC x) 41)) (.cells devZC 27))
  have B1 := Lib.hid (blk_old (blk_new' (w.alloc (.cells (devC d ta tc qa qc da dc la lc) 27)) (.cells (wrC x) 41) (w.heap.size + 1) (by simp)) (.cells devZC 27))
  have B4 := Lib.hid (blk_new' ((w.alloc (.cells (devC d ta tc qa qc da dc la lc) 27)).alloc (.cells (wrC x) 41)) (.cells devZC 27) (w.heap.size + 2) (by simp))
  have HH := Lib.hid h
  have HM := Lib.hid hM
  have HF := Lib.hid hf
  have FM := Lib.hid (rformed_ok x (((w.alloc (.cells (devC d ta tc qa qc da dc la lc) 27)).alloc (.cells (wrC x) 41)).alloc (.cells devZC 27)))
  clear h hM hf
  have f1 : ¬ x.ep < d.ep := by omega
  have f2 : ¬ x.ep > d.ep := by omega
  clear hep
  have HS := Lib.hid hh
  have HQ := Lib.hid hw
  clear hh hw
  have f3 := decide_eq_true (show (64 : Int) ≤ (d.queue.length : Int) by omega)
  have f4 := decide_eq_true (show 64 ≤ d.queue.length by omega)
  have HFQ := Lib.hid hf9
  clear hf9
  go_enter Try.func18, Try.ntmps18
  go_wp2_with (first
      | (refine wpList_alloc_Z rfl 27 rfl _ (devZ _) ?_)
      | (refine wpList_load_big bigWr rfl _ rfl (w.heap.size + 1) 0 (wrC x) rfl (range_blk B1.out) rfl ?_))
  refine FM.out.mono ?_
  rintro e w1 ⟨e1, k1⟩
  rw [HF.out] at e1
  subst e1
  have K1 := Lib.hid (KB.out.trans k1)
  have C0 := Lib.hid (k1.blk B0.out (fun x => x))
  have C1 := Lib.hid (k1.blk B1.out (fun x => x))
  have C4 := Lib.hid (k1.blk B4.out (fun x => x))
  have hz1 := lt_of_block C4.out
  clear k1 KB FM B0 B1 B4
  have S0 := Lib.hid (BxSt.start (M := M) (A := w1.heap.size) C0.out C4.out C1.out ((HH.out.mono (fun i hi q => by rcases q with q | q | q | q | q; exact q; all_goals omega)).kept K1.out.of_no) K1.out ⟨by omega, by omega, by omega, by omega⟩ ⟨by omega, by omega, by omega, by omega, by omega, by omega⟩ rfl)
  have v0 := cell_blk C1.out 0 _ (wrC_0 x)
  have v1 := cell_blk C1.out 1 _ (wrC_1 x)
  clear C0 C1 C4 HH K1
  go_wp2_with (first
      | (refine wpList_alloc_Z rfl 60 rfl _ (akZ _) ?_)
      | (refine wpList_store_bign (cs := akC x 0) bigAk rfl _ _ rfl w1.heap.size (by simp) rfl rfl rfl rfl (ak1 x 0) ?_; unfold akC; generalize (w1.alloc (.cells #[.int .i64 x.ep, .int .i64 x.seq, .int .i64 0] 60)) = w2 at *; have u0 := cell_blk S0.out.hx 0 _ (wrC_0 x); have u1 := cell_blk S0.out.hx 1 _ (wrC_1 x); have y1 := cell_blk S0.out.hd 1 _ dv1; have y4 := cell_blk S0.out.hd 4 _ dv4)
      | (go_at_call 58; refine (rhas_ok _ d.done (BX M w.heap.size (w.heap.size + 2) (w.heap.size + 1) w1.heap.size) x.seq _ S0.out.rd.rd (by omega)).mono ?_; rw [HS.out]; rintro e wy ⟨rfl, rfl⟩))
  clear u0 u1 y1 y4 v0 v1
  go_loopw [8, 9] (fun t i wr => ∃ k : Nat, k ≤ d.queue.length ∧ i = .int .i64 k ∧ t = .bool (hasSeq (d.queue.take k) x.seq) ∧ Hid (BxSt w M x w.heap.size (w.heap.size + 2) (w.heap.size + 1) w1.heap.size wr (d) 0 ta qa da la tc qc dc lc)) (fun _ i _ => d.queue.length - (intOf i).toNat)
  case atStart => exact ⟨0, Nat.zero_le _, rfl, rfl, S0⟩
  case round =>
    obtain ⟨k, hk, rfl, rfl, SK⟩ := hrel
    have y3 := cell_blk SK.out.hd 3 _ dv3
    by_cases hlt : k < d.queue.length
    · have hki : (k : Int) < d.queue.length := by omega
      obtain ⟨y, hy⟩ := getAt hlt
      obtain ⟨b, off, e1, hMb, hc⟩ := wr_at SK.out.rd.rq hy
      rw [e1] at y3
      have t1 := range_cell hc 1 _ (wrC_1 y)
      have v1 := cell_blk SK.out.hx 1 _ (wrC_1 x)
      have HT := Lib.hid (hasSeq_take (n := x.seq) hy)
      clear hc hMb hy e1
      rcases hB : hasSeq (d.queue.take k) x.seq with _ | _
      · by_cases hs : y.seq = x.seq
        · have HU := Lib.hid (show hasSeq (d.queue.take (k + 1)) x.seq = true by rw [HT.out, hB]; simp [hs])
          have f4 : (y.seq == x.seq) = true := by simpa using hs
          clear hs hB HT
          go_wp2_with fail
          go_quiet (fail)
          go_wp2_with fail
          go_roundw
          case rel => exact ⟨k + 1, by omega, by go_num, by rw [HU.out], Lib.hid (SK.out.kept ((Kept.refl NoM wr).drewN _))⟩
          case measure => simp [intOf]; omega
        · have HU := Lib.hid (show hasSeq (d.queue.take (k + 1)) x.seq = false by rw [HT.out, hB]; simp [hs])
          have f4 : (y.seq == x.seq) = false := by simpa using hs
          clear hs hB HT
          go_wp2_with fail
          go_quiet (fail)
          go_wp2_with fail
          go_roundw
          case rel => exact ⟨k + 1, by omega, by go_num, by rw [HU.out], Lib.hid (SK.out.kept ((Kept.refl NoM wr).drewN _))⟩
          case measure => simp [intOf]; omega
      · have HU := Lib.hid (show hasSeq (d.queue.take (k + 1)) x.seq = true by rw [HT.out, hB]; rfl)
        clear hB HT
        go_wp2_with fail
        go_quiet (fail)
        go_wp2_with fail
        go_roundw
        case rel => exact ⟨k + 1, by omega, by go_num, by rw [HU.out], Lib.hid (SK.out.kept ((Kept.refl NoM wr).drewN _))⟩
        case measure => simp [intOf]; omega
    · obtain rfl : k = d.queue.length := by omega
      have g1 := decide_eq_false (show ¬ ((d.queue.length : Nat) : Int) < d.queue.length by omega)
      have g2 := decide_eq_false (show ¬ d.queue.length < d.queue.length by omega)
      rw [show hasSeq (d.queue.take d.queue.length) x.seq = false by rw [List.take_length]; exact HQ.out]
      have z2 := cell_blk SK.out.ha 2 _ rfl
      have z3 := free_blk SK.out.ha 2
      have S1 := Lib.hid (SK.out.setE 12)
      go_wp2_with fail
      generalize wr.setCell ⟨w1.heap.size, 2, none⟩ (.int .i64 12) = w3 at *
      refine wp_region_par 4 [] [] [] [] [] (fun wx => CF w3 (w.heap.size + 2) wx)
            [fun v _ => v = .agg (devC d ta tc qa qc da dc la lc), fun v _ => v = .agg (akC x 12), fun v wx => ∃ b, (v = .slice (some ⟨b, 0, none⟩) 1 1 ∧ w3.heap.size ≤ b) ∧ wx.heap[b]? = some (.cells (akC x 12) 60 (0, 0)), fun _ wx => wx.heap[w.heap.size + 2]? = some (.cells (devC d ta tc qa qc da dc la lc) 27 (0, 0))] (by kernel_rfl) (by kernel_rfl) (by kernel_rfl) (CF.refl rfl S1.out.hz).drew (inits_nil) ?_ ?_
      · intro i hi9
        have hst := stab_all (posts := [fun v _ => v = .agg (devC d ta tc qa qc da dc la lc), fun v _ => v = .agg (akC x 12), fun v wx => ∃ b, (v = .slice (some ⟨b, 0, none⟩) 1 1 ∧ w3.heap.size ≤ b) ∧ wx.heap[b]? = some (.cells (akC x 12) 60 (0, 0)), fun _ wx => wx.heap[w.heap.size + 2]? = some (.cells (devC d ta tc qa qc da dc la lc) 27 (0, 0))])        (stab_cons (stab_const _) (stab_cons (stab_const _) (stab_cons (stab_blk (fun b v => v = .slice (some ⟨b, 0, none⟩) 1 1 ∧ w3.heap.size ≤ b) (fun b => b) (fun b => .cells (akC x 12) 60 (0, 0))) (stab_cons (fun _ _ _ k h => k.blk h (fun x => x)) stab_nil))))
        have hist := init_stab (inits := []) (fun p h => by cases h)
        have HST := Lib.hid hst
        have HIST := Lib.hid hist
        clear hst hist
        rcases (show i = 0 ∨ i = 1 ∨ i = 2 ∨ i = 3 by omega) with rfl | rfl | rfl | rfl
        · refine asks_intro ?_; intro o ho a wx hc hout hp hi R hR; cases ho
          have e2 : a.tmps[2]? = some (.pointer (some ⟨w.heap.size, 0, none⟩)) := hout 2 rfl
          refine gives_load_big bigDev (.tmp 2) rfl w.heap.size 0 (devC d ta tc qa qc da dc la lc) (by go_simp) (range_blk (hc.blk S1.out.hd (by omega))) rfl ?_
          exact hR _ _ hc rfl (fun _ _ _ _ _ u h => h) (fun _ _ h => h)
        · refine asks_intro ?_; intro o ho a wx hc hout hp hi R hR; cases ho
          have e7 : a.tmps[7]? = some (.pointer (some ⟨w1.heap.size, 0, none⟩)) := hout 7 rfl
          refine gives_load_big bigAk (.tmp 7) rfl w1.heap.size 0 (akC x 12) (by go_simp) (range_blk (hc.blk S1.out.ha (by omega))) rfl ?_
          exact hR _ _ hc rfl (fun _ _ _ _ _ u h => h) (fun _ _ h => h)
        · refine asks_intro ?_; intro o ho a wx hc hout hp hi R hR; cases ho
          have e76 : a.tmps[76]?.getD undef = .agg (akC x 12) := hp 1 (by omega) rfl
          go_simp
          exact hR _ _ (hc.alloc _) ⟨_, ⟨rfl, hc.1.size⟩, blk_new _ _⟩ (fun j _ _ _ _ u h => HST.out j u _ _ ((Kept.refl _ _).alloc _) h) (fun j _ h => HIST.out j _ _ ((Kept.refl _ _).alloc _) h)
        · refine asks_intro ?_; intro o ho a wx hc hout hp hi R hR; cases ho
          have e75 : a.tmps[75]?.getD undef = .agg (devC d ta tc qa qc da dc la lc) := hp 0 (by omega) rfl
          have e4 : a.tmps[4]? = some (.pointer (some ⟨w.heap.size + 2, 0, none⟩)) := hout 4 rfl
          obtain ⟨hck, z9, hz7, hz9⟩ := hc
          refine gives_store_bigb (cs := devC d ta tc qa qc da dc la lc) bigDev (.tmp 4) (.tmp 75) rfl (w.heap.size + 2) (by go_simp) (by go_simp) hz9 hz7 rfl (dev1 _ _ _ _ _ _ _ _ _) ?_
          refine hR _ _ (CF.put ⟨hck, z9, hz7, hz9⟩ _ rfl) (putB_blk _ _ _ _ (lt_of_block hz9)) (fun j hj hne hcn hwf u h => ?_) (fun q hq h => ?_)
          · rcases (show j = 0 ∨ j = 1 ∨ j = 2 ∨ j = 3 by omega) with rfl | rfl | rfl | rfl <;> first | exact h | exact absurd hcn (by decide) | exact absurd rfl hne | (obtain ⟨b, ⟨q1, q2⟩, q3⟩ := h; have q2 : w3.heap.size ≤ b := q2; have hz9 := S1.out.bxlt HM.out _ (.inr (.inr (.inl rfl))); exact ⟨b, ⟨q1, q2⟩, (putB_blk_ne _ _ _ _ _ (by omega)).trans q3⟩)
          · trivial
      · intro vs w' hc hp
        have e75 : vs 0 = .agg (devC d ta tc qa qc da dc la lc) := hp 0 (by omega) rfl
        have e76 : vs 1 = .agg (akC x 12) := hp 1 (by omega) rfl
        obtain ⟨b, e77, hb77⟩ : ∃ b, (vs 2 = .slice (some ⟨b, 0, none⟩) 1 1 ∧ w3.heap.size ≤ b) ∧ w'.heap[b]? = some (.cells (akC x 12) 60 (0, 0)) := hp 2 (by omega) rfl
        obtain ⟨_, hbg3⟩ : ∃ _ : Value, w'.heap[w.heap.size + 2]? = some (.cells (devC d ta tc qa qc da dc la lc) 27 (0, 0)) := hp 3 (by omega) rfl
        simp only [List.take_succ_cons, List.take_zero, List.drop_succ_cons, List.drop_zero, putAll, Act.put, List.setIfInBounds_toArray, List.set_cons_zero, List.set_cons_succ, Nat.reduceAdd, e75, e76]
        obtain ⟨e77, hsb⟩ := e77
        rw [e77]
        change wpList _ _ _ _ _ _
        have HB4 := Lib.hid hbg3
        have HAK := Lib.hid hb77
        have HC9 := Lib.hid hc
        clear hbg3 hb77 hc hp
        go_wp2_with fail
        have hl0 : _root_.Go.World.cell? _ ⟨w.heap.size + 2, 0, none⟩ = _ := cell_blk HB4.out 0 _ dv0
        have hl1 : _root_.Go.World.cell? _ ⟨w.heap.size + 2, 1, none⟩ = _ := cell_blk HB4.out 1 _ dv1
        have hl2 : _root_.Go.World.cell? _ ⟨w.heap.size + 2, 2, none⟩ = _ := cell_blk HB4.out 2 _ dv2
        have hl3 : _root_.Go.World.cell? _ ⟨w.heap.size + 2, 3, none⟩ = _ := cell_blk HB4.out 3 _ dv3
        have hl4 : _root_.Go.World.cell? _ ⟨w.heap.size + 2, 4, none⟩ = _ := cell_blk HB4.out 4 _ dv4
        have hl5 : _root_.Go.World.cell? _ ⟨w.heap.size + 2, 5, none⟩ = _ := cell_blk HB4.out 5 _ dv5
        have hl6 : _root_.Go.World.cell? _ ⟨w.heap.size + 2, 6, none⟩ = _ := cell_blk HB4.out 6 _ dv6
        refine bodyPost_ret (v := .tuple #[.agg (devC d ta tc qa qc da dc la lc), .slice (some ⟨b, 0, none⟩) 1 1, .int .i64 0]) (by simp [results, Try.results18, go_sem, devC, hl0, hl1, hl2, hl3, hl4, hl5, hl6]) rfl ?_
        have FD := S1.out.dev HC9.out.1
        exact ⟨_, _, rfl, FD.1, acks_one (a := ⟨x.ep, x.seq, 12⟩) HAK.out HM.out (by have := S1.out.kp.size; omega), FD.2⟩
end Go.Proofs.Ytghgegghlefclaa

/- Walks: Receive of the specification. -/
namespace Go.Proofs.Ytghgegghlefclaa
open Go.RowKit
set_option maxHeartbeats 4000000
set_option maxRecDepth 8000
theorem rrecv_add1 (d : Dev) (x : Wr) (ta qa da la : Option Addr) (tc qc dc lc : Nat) (M : Nat → Prop) (w : World) (h : DevR w M d ta tc qa qc da dc la lc) (hM : ∀ i, M i → i < w.heap.size) (hql : d.queue.length ≤ 1000) (hdl : d.done.length ≤ 1000) (hf : formedB x = true) (hep : x.ep = d.ep) (hh : hasI d.done x.seq = false) (hw : hasSeq d.queue x.seq = false) (hf9 : d.queue.length < 64) (he : earlyW d x = true) :
    Calls Try.prog 18 #[.agg (devC d ta tc qa qc da dc la lc), .agg (wrC x)] w (RecvPost M w ({ d with queue := d.queue ++ [x] }) ([⟨x.ep, x.seq, 0⟩])) := by
  have KB := Lib.hid ((((Kept.refl NoM w).alloc (.cells (devC d ta tc qa qc da dc la lc) 27)).alloc (.cells (wrC x) 41)).alloc (.cells devZC 27))
  have B0 := Lib.hid (blk_old (blk_old (blk_new w (.cells (devC d ta tc qa qc da dc la lc) 27)) (.cells (wrC x) 41)) (.cells devZC 27))
  have B1 := Lib.hid (blk_old (blk_new' (w.alloc (.cells (devC d ta tc qa qc da dc la lc) 27)) (.cells (wrC x) 41) (w.heap.size + 1) (by simp)) (.cells devZC 27))
  have B4 := Lib.hid (blk_new' ((w.alloc (.cells (devC d ta tc qa qc da dc la lc) 27)).alloc (.cells (wrC x) 41)) (.cells devZC 27) (w.heap.size + 2) (by simp))
  have HH := Lib.hid h
  have HM := Lib.hid hM
  have HF := Lib.hid hf
  have FM := Lib.hid (rformed_ok x (((w.alloc (.cells (devC d ta tc qa qc da dc la lc) 27)).alloc (.cells (wrC x) 41)).alloc (.cells devZC 27)))
  clear h hM hf
  have f1 : ¬ x.ep < d.ep := by omega
  have f2 : ¬ x.ep > d.ep := by omega
  clear hep
  have HS := Lib.hid hh
  have HQ := Lib.hid hw
  clear hh hw
  have HE := Lib.hid (show earlyW ({ d with queue := d.queue ++ [x] } : Dev) x = true from he)
  clear he
  have f3 := decide_eq_false (show ¬ (64 : Int) ≤ (d.queue.length : Int) by omega)
  have f4 := decide_eq_false (show ¬ 64 ≤ d.queue.length by omega)
  have HFQ := Lib.hid hf9
  clear hf9
  go_enter Try.func18, Try.ntmps18
  go_wp2_with (first
      | (refine wpList_alloc_Z rfl 27 rfl _ (devZ _) ?_)
      | (refine wpList_load_big bigWr rfl _ rfl (w.heap.size + 1) 0 (wrC x) rfl (range_blk B1.out) rfl ?_))
  refine FM.out.mono ?_
  rintro e w1 ⟨e1, k1⟩
  rw [HF.out] at e1
  subst e1
  have K1 := Lib.hid (KB.out.trans k1)
  have C0 := Lib.hid (k1.blk B0.out (fun x => x))
  have C1 := Lib.hid (k1.blk B1.out (fun x => x))
  have C4 := Lib.hid (k1.blk B4.out (fun x => x))
  have hz1 := lt_of_block C4.out
  clear k1 KB FM B0 B1 B4
  have S0 := Lib.hid (BxSt.start (M := M) (A := w1.heap.size) C0.out C4.out C1.out ((HH.out.mono (fun i hi q => by rcases q with q | q | q | q | q; exact q; all_goals omega)).kept K1.out.of_no) K1.out ⟨by omega, by omega, by omega, by omega⟩ ⟨by omega, by omega, by omega, by omega, by omega, by omega⟩ rfl)
  have v0 := cell_blk C1.out 0 _ (wrC_0 x)
  have v1 := cell_blk C1.out 1 _ (wrC_1 x)
  clear C0 C1 C4 HH K1
  go_wp2_with (first
      | (refine wpList_alloc_Z rfl 60 rfl _ (akZ _) ?_)
      | (refine wpList_store_bign (cs := akC x 0) bigAk rfl _ _ rfl w1.heap.size (by simp) rfl rfl rfl rfl (ak1 x 0) ?_; unfold akC; generalize (w1.alloc (.cells #[.int .i64 x.ep, .int .i64 x.seq, .int .i64 0] 60)) = w2 at *; have u0 := cell_blk S0.out.hx 0 _ (wrC_0 x); have u1 := cell_blk S0.out.hx 1 _ (wrC_1 x); have y1 := cell_blk S0.out.hd 1 _ dv1; have y4 := cell_blk S0.out.hd 4 _ dv4)
      | (go_at_call 58; refine (rhas_ok _ d.done (BX M w.heap.size (w.heap.size + 2) (w.heap.size + 1) w1.heap.size) x.seq _ S0.out.rd.rd (by omega)).mono ?_; rw [HS.out]; rintro e wy ⟨rfl, rfl⟩))
  clear u0 u1 y1 y4 v0 v1
  go_loopw [8, 9] (fun t i wr => ∃ k : Nat, k ≤ d.queue.length ∧ i = .int .i64 k ∧ t = .bool (hasSeq (d.queue.take k) x.seq) ∧ Hid (BxSt w M x w.heap.size (w.heap.size + 2) (w.heap.size + 1) w1.heap.size wr (d) 0 ta qa da la tc qc dc lc)) (fun _ i _ => d.queue.length - (intOf i).toNat)
  case atStart => exact ⟨0, Nat.zero_le _, rfl, rfl, S0⟩
  case round =>
    obtain ⟨k, hk, rfl, rfl, SK⟩ := hrel
    have y3 := cell_blk SK.out.hd 3 _ dv3
    by_cases hlt : k < d.queue.length
    · have hki : (k : Int) < d.queue.length := by omega
      obtain ⟨y, hy⟩ := getAt hlt
      obtain ⟨b, off, e1, hMb, hc⟩ := wr_at SK.out.rd.rq hy
      rw [e1] at y3
      have t1 := range_cell hc 1 _ (wrC_1 y)
      have v1 := cell_blk SK.out.hx 1 _ (wrC_1 x)
      have HT := Lib.hid (hasSeq_take (n := x.seq) hy)
      clear hc hMb hy e1
      rcases hB : hasSeq (d.queue.take k) x.seq with _ | _
      · by_cases hs : y.seq = x.seq
        · have HU := Lib.hid (show hasSeq (d.queue.take (k + 1)) x.seq = true by rw [HT.out, hB]; simp [hs])
          have f4 : (y.seq == x.seq) = true := by simpa using hs
          clear hs hB HT
          go_wp2_with fail
          go_quiet (fail)
          go_wp2_with fail
          go_roundw
          case rel => exact ⟨k + 1, by omega, by go_num, by rw [HU.out], Lib.hid (SK.out.kept ((Kept.refl NoM wr).drewN _))⟩
          case measure => simp [intOf]; omega
        · have HU := Lib.hid (show hasSeq (d.queue.take (k + 1)) x.seq = false by rw [HT.out, hB]; simp [hs])
          have f4 : (y.seq == x.seq) = false := by simpa using hs
          clear hs hB HT
          go_wp2_with fail
          go_quiet (fail)
          go_wp2_with fail
          go_roundw
          case rel => exact ⟨k + 1, by omega, by go_num, by rw [HU.out], Lib.hid (SK.out.kept ((Kept.refl NoM wr).drewN _))⟩
          case measure => simp [intOf]; omega
      · have HU := Lib.hid (show hasSeq (d.queue.take (k + 1)) x.seq = true by rw [HT.out, hB]; rfl)
        clear hB HT
        go_wp2_with fail
        go_quiet (fail)
        go_wp2_with fail
        go_roundw
        case rel => exact ⟨k + 1, by omega, by go_num, by rw [HU.out], Lib.hid (SK.out.kept ((Kept.refl NoM wr).drewN _))⟩
        case measure => simp [intOf]; omega
    · obtain rfl : k = d.queue.length := by omega
      have g1 := decide_eq_false (show ¬ ((d.queue.length : Nat) : Int) < d.queue.length by omega)
      have g2 := decide_eq_false (show ¬ d.queue.length < d.queue.length by omega)
      rw [show hasSeq (d.queue.take d.queue.length) x.seq = false by rw [List.take_length]; exact HQ.out]
      go_wp2_with fail
      refine wp_region_par 6 [] [(0, 3)] [] [] [] (fun wx => Kept NoM wr wx)
            [fun v wx => ∃ b0, (v = .slice (some ⟨b0, 0, none⟩) 0 0 ∧ wr.heap.size ≤ b0) ∧ wx.heap[b0]? = some (.cells #[] 41 (0, 0)), fun v _ => v = .pointer (some ⟨w.heap.size, 3, none⟩), fun v _ => v = .slice qa d.queue.length qc, fun v wx => ∃ a5 cap5 O5, v = .slice a5 d.queue.length cap5 ∧ OwnS wx O5 41 26 EWr (.slice a5 d.queue.length cap5) d.queue ∧ ∀ o, O5 = some o → wr.heap.size ≤ o, fun v _ => v = .agg (wrC x), fun v wx => ∃ b, (v = .slice (some ⟨b, 0, none⟩) 1 1 ∧ wr.heap.size ≤ b) ∧ wx.heap[b]? = some (.cells (wrC x) 41 (0, 0))] (by kernel_rfl) (by kernel_rfl) (by kernel_rfl) (Kept.refl NoM wr).drew (inits_nil) ?_ ?_
      · intro i hi9
        have hst := stab_all (posts := [fun v wx => ∃ b0, (v = .slice (some ⟨b0, 0, none⟩) 0 0 ∧ wr.heap.size ≤ b0) ∧ wx.heap[b0]? = some (.cells #[] 41 (0, 0)), fun v _ => v = .pointer (some ⟨w.heap.size, 3, none⟩), fun v _ => v = .slice qa d.queue.length qc, fun v wx => ∃ a5 cap5 O5, v = .slice a5 d.queue.length cap5 ∧ OwnS wx O5 41 26 EWr (.slice a5 d.queue.length cap5) d.queue ∧ ∀ o, O5 = some o → wr.heap.size ≤ o, fun v _ => v = .agg (wrC x), fun v wx => ∃ b, (v = .slice (some ⟨b, 0, none⟩) 1 1 ∧ wr.heap.size ≤ b) ∧ wx.heap[b]? = some (.cells (wrC x) 41 (0, 0))])        (stab_cons (stab_blk (fun b0 v => v = .slice (some ⟨b0, 0, none⟩) 0 0 ∧ wr.heap.size ≤ b0) (fun b0 => b0) (fun b0 => .cells #[] 41 (0, 0))) (stab_cons (stab_const _) (stab_cons (stab_const _) (stab_cons (fun _ _ _ k ⟨a5, cap5, O5, q1, q2, q3⟩ => ⟨a5, cap5, O5, q1, q2.kept k (fun _ _ x => x) (fun _ _ x => x), q3⟩) (stab_cons (stab_const _) (stab_cons (stab_blk (fun b v => v = .slice (some ⟨b, 0, none⟩) 1 1 ∧ wr.heap.size ≤ b) (fun b => b) (fun b => .cells (wrC x) 41 (0, 0))) stab_nil))))))
        have hist := init_stab (inits := []) (fun p h => by cases h)
        have HST := Lib.hid hst
        have HIST := Lib.hid hist
        clear hst hist
        rcases (show i = 0 ∨ i = 1 ∨ i = 2 ∨ i = 3 ∨ i = 4 ∨ i = 5 by omega) with rfl | rfl | rfl | rfl | rfl | rfl
        · refine asks_intro ?_; intro o ho a wx hc hout hp hi R hR; cases ho
          go_simp
          exact hR _ _ (hc.alloc _) ⟨_, ⟨rfl, hc.size⟩, blk_new _ _⟩ (fun j _ _ _ _ u h => HST.out j u _ _ ((Kept.refl _ _).alloc _) h) (fun j _ h => HIST.out j _ _ ((Kept.refl _ _).alloc _) h)
        · refine asks_intro ?_; intro o ho a wx hc hout hp hi R hR; cases ho
          have e2 : a.tmps[2]? = some (.pointer (some ⟨w.heap.size, 0, none⟩)) := hout 2 rfl
          go_simp
          exact hR _ _ hc rfl (fun _ _ _ _ _ u h => h) (fun _ _ h => h)
        · refine asks_intro ?_; intro o ho a wx hc hout hp hi R hR; cases ho
          have e81 : a.tmps[81]?.getD undef = .pointer (some ⟨w.heap.size, 3, none⟩) := hp 1 (by omega) rfl
          have y3 : wx.cell? ⟨w.heap.size, 3, none⟩ = some (.slice qa d.queue.length qc) := cell_blk (hc.blk SK.out.hd (fun x => x)) 3 _ dv3
          go_simp
          exact hR _ _ hc rfl (fun _ _ _ _ _ u h => h) (fun _ _ h => h)
        · refine asks_intro ?_; intro o ho a wx hc hout hp hi R hR; cases ho
          obtain ⟨b0, e80, hb80⟩ : ∃ b0, (a.tmps[80]?.getD undef = .slice (some ⟨b0, 0, none⟩) 0 0 ∧ wr.heap.size ≤ b0) ∧ wx.heap[b0]? = some (.cells #[] 41 (0, 0)) := hp 0 (by omega) rfl
          have e82 : a.tmps[82]?.getD undef = .slice qa d.queue.length qc := hp 2 (by omega) rfl
          obtain ⟨e80, hs80⟩ := e80
          refine gives_append_S (M := BX M w.heap.size (w.heap.size + 2) (w.heap.size + 1) w1.heap.size) (xs := ([] : List Wr)) (ys := d.queue) (.tmp 80) (.tmp 82) 24 rfl 224 tyWrites (.slice (some ⟨b0, 0, none⟩) 0 0) (by go_simp) (OwnS.empty hb80) (.slice qa d.queue.length qc) (by go_simp) (SK.out.rd.rq.kept hc.of_no (fun _ _ x => x)) eWr_one (by unfold maxLen; simp; try omega) (by simp; try omega) ?_
          intro a5 cap5 w5 O5 q1 q2 q3
          have e9 : ([] : List Wr).length + (d.queue).length = d.queue.length := by simp
          rw [e9] at q1 ⊢
          have hC := hc.trans' q2 (fun i hi h => absurd (Option.some.inj h) (by omega))
          refine hR _ _ hC ⟨a5, cap5, O5, rfl, q1, fun o ho => by rcases q3 with q3 | ⟨g2, q3, q4⟩; rw [ho] at q3; cases q3; exact hs80; have := hc.size; rw [ho] at q3; cases q3; omega⟩ (fun j hj hne hcn hwf u h => ?_) (fun q hq h => ?_)
          · rcases (show j = 0 ∨ j = 1 ∨ j = 2 ∨ j = 3 ∨ j = 4 ∨ j = 5 by omega) with rfl | rfl | rfl | rfl | rfl | rfl <;> first | exact h | exact absurd hcn (by decide) | exact absurd rfl hne | (obtain ⟨b, ⟨q4, q5⟩, q6⟩ := h; exact ⟨b, ⟨q4, q5⟩, q2.blk q6 (fun e => empty_ne hb80 q6 (Option.some.inj e))⟩)
          · trivial
        · refine asks_intro ?_; intro o ho a wx hc hout hp hi R hR; cases ho
          have e3 : a.tmps[3]? = some (.pointer (some ⟨w.heap.size + 1, 0, none⟩)) := hout 3 rfl
          refine gives_load_big bigWr (.tmp 3) rfl (w.heap.size + 1) 0 (wrC x) (by go_simp) (range_blk (hc.blk SK.out.hx (fun x => x))) rfl ?_
          exact hR _ _ hc rfl (fun _ _ _ _ _ u h => h) (fun _ _ h => h)
        · refine asks_intro ?_; intro o ho a wx hc hout hp hi R hR; cases ho
          have e84 : a.tmps[84]?.getD undef = .agg (wrC x) := hp 4 (by omega) rfl
          go_simp
          exact hR _ _ (hc.alloc _) ⟨_, ⟨rfl, hc.size⟩, blk_new _ _⟩ (fun j _ _ _ _ u h => HST.out j u _ _ ((Kept.refl _ _).alloc _) h) (fun j _ h => HIST.out j _ _ ((Kept.refl _ _).alloc _) h)
      · intro vs w' hc hp
        have e81 : vs 1 = .pointer (some ⟨w.heap.size, 3, none⟩) := hp 1 (by omega) rfl
        have e82 : vs 2 = .slice qa d.queue.length qc := hp 2 (by omega) rfl
        obtain ⟨a5, cap5, O5, e83, o5, n5⟩ : ∃ a5 cap5 O5, (vs 3) = .slice a5 d.queue.length cap5 ∧ OwnS w' O5 41 26 EWr (.slice a5 d.queue.length cap5) d.queue ∧ ∀ o, O5 = some o → wr.heap.size ≤ o := hp 3 (by omega) rfl
        have e84 : vs 4 = .agg (wrC x) := hp 4 (by omega) rfl
        obtain ⟨b, e85, hb85⟩ : ∃ b, (vs 5 = .slice (some ⟨b, 0, none⟩) 1 1 ∧ wr.heap.size ≤ b) ∧ w'.heap[b]? = some (.cells (wrC x) 41 (0, 0)) := hp 5 (by omega) rfl
        simp only [List.take_succ_cons, List.take_zero, List.drop_succ_cons, List.drop_zero, putAll, Act.put, List.setIfInBounds_toArray, List.set_cons_zero, List.set_cons_succ, Nat.reduceAdd, e81, e82, e84]
        obtain ⟨e85, hs85⟩ := e85
        rw [e83, e85]
        change wpList _ _ _ _ _ _
        have HO := Lib.hid o5
        have HN5 := Lib.hid n5
        have KC := Lib.hid hc
        have HAB := Lib.hid hb85
        have HBW := Lib.hid hs85
        clear hc hp o5 n5 hb85 hs85 e81 e82 e84
        have RD1 := Lib.hid (rd_one (M := NoM) (sz := 26) (E := EWr) (x := x) HAB.out (fun x => x) rfl rfl)
        generalize hWE : w' = we at *
        go_wp2_with (first | (at_builtin; refine wpList_append_S (M := NoM) rfl (.tmp 83) (.tmp 85) 24 rfl 224 tyWrites _ rfl HO.out _ rfl RD1.out eWr_one d.queue.length 1 rfl rfl (by unfold maxLen; omega) (by omega) ?_; intro a8 cap8 w8 O8 hown hkk hnn; have hO8 : ∀ g, O8 = some g → wr.heap.size ≤ g := newO_ge HN5.out KC.out.size hnn; have S8 := Lib.hid (SK.out.kept (KC.out.trans' hkk (fun i hi e => absurd (HN5.out _ e.symm) (by omega)))); have y71 := cell_blk S8.out.hd 3 _ dv3; have y72 := free_blk S8.out.hd 3; have QR := Lib.hid (RdS.len (show d.queue.length + 1 = (d.queue ++ [x]).length by simp) (SK.out.rdn HM.out hown hO8)); have S9 : Hid (BxSt w M x w.heap.size (w.heap.size + 2) (w.heap.size + 1) w1.heap.size (w8.setCell ⟨w.heap.size, 3, none⟩ (.slice a8 (d.queue.length + 1) cap8)) ({ d with queue := d.queue ++ [x] }) 0 ta a8 da la tc cap8 dc lc) := Lib.hid (S8.out.set 3 (.slice a8 (d.queue.length + 1) cap8) (by simp [devC]) ⟨S8.out.rd.rt, QR.out, S8.out.rd.rd, S8.out.rd.rl⟩); clear hown hkk hnn hO8) | (refine wpList_load_big bigDev rfl _ rfl w.heap.size 0 (devC ({ d with queue := d.queue ++ [x] }) ta tc a8 cap8 da dc la lc) rfl (range_blk (by first | exact S4.out.hd | exact S9.out.hd)) rfl ?_) | (refine wpList_load_big bigWr rfl _ rfl (w.heap.size + 1) 0 (wrC x) rfl (range_blk S9.out.hx) rfl ?_) | (go_at_call 59; refine (rearly_ok ({ d with queue := d.queue ++ [x] }) x ta a8 da la tc cap8 dc lc _).mono ?_; rw [HE.out]; rintro e w4 ⟨rfl, k4⟩; have S4 := Lib.hid (S9.out.kept k4); clear k4))
        refine wp_region_par 4 [] [] [] [] [] (fun wx => CF w4 (w.heap.size + 2) wx)
              [fun v _ => v = .agg (devC ({ d with queue := d.queue ++ [x] }) ta tc a8 cap8 da dc la lc), fun v _ => v = .agg (akC x 0), fun v wx => ∃ b, (v = .slice (some ⟨b, 0, none⟩) 1 1 ∧ w4.heap.size ≤ b) ∧ wx.heap[b]? = some (.cells (akC x 0) 60 (0, 0)), fun _ wx => wx.heap[w.heap.size + 2]? = some (.cells (devC ({ d with queue := d.queue ++ [x] }) ta tc a8 cap8 da dc la lc) 27 (0, 0))] (by kernel_rfl) (by kernel_rfl) (by kernel_rfl) (CF.refl rfl S4.out.hz).drew (inits_nil) ?_ ?_
        · intro i hi9
          have hst := stab_all (posts := [fun v _ => v = .agg (devC ({ d with queue := d.queue ++ [x] }) ta tc a8 cap8 da dc la lc), fun v _ => v = .agg (akC x 0), fun v wx => ∃ b, (v = .slice (some ⟨b, 0, none⟩) 1 1 ∧ w4.heap.size ≤ b) ∧ wx.heap[b]? = some (.cells (akC x 0) 60 (0, 0)), fun _ wx => wx.heap[w.heap.size + 2]? = some (.cells (devC ({ d with queue := d.queue ++ [x] }) ta tc a8 cap8 da dc la lc) 27 (0, 0))])        (stab_cons (stab_const _) (stab_cons (stab_const _) (stab_cons (stab_blk (fun b v => v = .slice (some ⟨b, 0, none⟩) 1 1 ∧ w4.heap.size ≤ b) (fun b => b) (fun b => .cells (akC x 0) 60 (0, 0))) (stab_cons (fun _ _ _ k h => k.blk h (fun x => x)) stab_nil))))
          have hist := init_stab (inits := []) (fun p h => by cases h)
          have HST := Lib.hid hst
          have HIST := Lib.hid hist
          clear hst hist
          rcases (show i = 0 ∨ i = 1 ∨ i = 2 ∨ i = 3 by omega) with rfl | rfl | rfl | rfl
          · refine asks_intro ?_; intro o ho a wx hc hout hp hi R hR; cases ho
            have e2 : a.tmps[2]? = some (.pointer (some ⟨w.heap.size, 0, none⟩)) := hout 2 rfl
            refine gives_load_big bigDev (.tmp 2) rfl w.heap.size 0 (devC ({ d with queue := d.queue ++ [x] }) ta tc a8 cap8 da dc la lc) (by go_simp) (range_blk (hc.blk S4.out.hd (by omega))) rfl ?_
            exact hR _ _ hc rfl (fun _ _ _ _ _ u h => h) (fun _ _ h => h)
          · refine asks_intro ?_; intro o ho a wx hc hout hp hi R hR; cases ho
            have e7 : a.tmps[7]? = some (.pointer (some ⟨w1.heap.size, 0, none⟩)) := hout 7 rfl
            refine gives_load_big bigAk (.tmp 7) rfl w1.heap.size 0 (akC x 0) (by go_simp) (range_blk (hc.blk S4.out.ha (by omega))) rfl ?_
            exact hR _ _ hc rfl (fun _ _ _ _ _ u h => h) (fun _ _ h => h)
          · refine asks_intro ?_; intro o ho a wx hc hout hp hi R hR; cases ho
            have e92 : a.tmps[92]?.getD undef = .agg (akC x 0) := hp 1 (by omega) rfl
            go_simp
            exact hR _ _ (hc.alloc _) ⟨_, ⟨rfl, hc.1.size⟩, blk_new _ _⟩ (fun j _ _ _ _ u h => HST.out j u _ _ ((Kept.refl _ _).alloc _) h) (fun j _ h => HIST.out j _ _ ((Kept.refl _ _).alloc _) h)
          · refine asks_intro ?_; intro o ho a wx hc hout hp hi R hR; cases ho
            have e91 : a.tmps[91]?.getD undef = .agg (devC ({ d with queue := d.queue ++ [x] }) ta tc a8 cap8 da dc la lc) := hp 0 (by omega) rfl
            have e4 : a.tmps[4]? = some (.pointer (some ⟨w.heap.size + 2, 0, none⟩)) := hout 4 rfl
            obtain ⟨hck, z9, hz7, hz9⟩ := hc
            refine gives_store_bigb (cs := devC ({ d with queue := d.queue ++ [x] }) ta tc a8 cap8 da dc la lc) bigDev (.tmp 4) (.tmp 91) rfl (w.heap.size + 2) (by go_simp) (by go_simp) hz9 hz7 rfl (dev1 _ _ _ _ _ _ _ _ _) ?_
            refine hR _ _ (CF.put ⟨hck, z9, hz7, hz9⟩ _ rfl) (putB_blk _ _ _ _ (lt_of_block hz9)) (fun j hj hne hcn hwf u h => ?_) (fun q hq h => ?_)
            · rcases (show j = 0 ∨ j = 1 ∨ j = 2 ∨ j = 3 by omega) with rfl | rfl | rfl | rfl <;> first | exact h | exact absurd hcn (by decide) | exact absurd rfl hne | (obtain ⟨b, ⟨q1, q2⟩, q3⟩ := h; have q2 : w4.heap.size ≤ b := q2; have hz9 := S4.out.bxlt HM.out _ (.inr (.inr (.inl rfl))); exact ⟨b, ⟨q1, q2⟩, (putB_blk_ne _ _ _ _ _ (by omega)).trans q3⟩)
            · trivial
        · intro vs w' hc hp
          have e91 : vs 0 = .agg (devC ({ d with queue := d.queue ++ [x] }) ta tc a8 cap8 da dc la lc) := hp 0 (by omega) rfl
          have e92 : vs 1 = .agg (akC x 0) := hp 1 (by omega) rfl
          obtain ⟨b, e93, hb93⟩ : ∃ b, (vs 2 = .slice (some ⟨b, 0, none⟩) 1 1 ∧ w4.heap.size ≤ b) ∧ w'.heap[b]? = some (.cells (akC x 0) 60 (0, 0)) := hp 2 (by omega) rfl
          obtain ⟨_, hbg3⟩ : ∃ _ : Value, w'.heap[w.heap.size + 2]? = some (.cells (devC ({ d with queue := d.queue ++ [x] }) ta tc a8 cap8 da dc la lc) 27 (0, 0)) := hp 3 (by omega) rfl
          simp only [List.take_succ_cons, List.take_zero, List.drop_succ_cons, List.drop_zero, putAll, Act.put, List.setIfInBounds_toArray, List.set_cons_zero, List.set_cons_succ, Nat.reduceAdd, e91, e92]
          obtain ⟨e93, hsb⟩ := e93
          rw [e93]
          change wpList _ _ _ _ _ _
          have HB4 := Lib.hid hbg3
          have HAK := Lib.hid hb93
          have HC9 := Lib.hid hc
          clear hbg3 hb93 hc hp
          go_wp2_with fail
          have hl0 : _root_.Go.World.cell? _ ⟨w.heap.size + 2, 0, none⟩ = _ := cell_blk HB4.out 0 _ dv0
          have hl1 : _root_.Go.World.cell? _ ⟨w.heap.size + 2, 1, none⟩ = _ := cell_blk HB4.out 1 _ dv1
          have hl2 : _root_.Go.World.cell? _ ⟨w.heap.size + 2, 2, none⟩ = _ := cell_blk HB4.out 2 _ dv2
          have hl3 : _root_.Go.World.cell? _ ⟨w.heap.size + 2, 3, none⟩ = _ := cell_blk HB4.out 3 _ dv3
          have hl4 : _root_.Go.World.cell? _ ⟨w.heap.size + 2, 4, none⟩ = _ := cell_blk HB4.out 4 _ dv4
          have hl5 : _root_.Go.World.cell? _ ⟨w.heap.size + 2, 5, none⟩ = _ := cell_blk HB4.out 5 _ dv5
          have hl6 : _root_.Go.World.cell? _ ⟨w.heap.size + 2, 6, none⟩ = _ := cell_blk HB4.out 6 _ dv6
          refine bodyPost_ret (v := .tuple #[.agg (devC ({ d with queue := d.queue ++ [x] }) ta tc a8 cap8 da dc la lc), .slice (some ⟨b, 0, none⟩) 1 1, .int .i64 0]) (by simp [results, Try.results18, go_sem, devC, hl0, hl1, hl2, hl3, hl4, hl5, hl6]) rfl ?_
          have FD := S4.out.dev HC9.out.1
          exact ⟨_, _, rfl, FD.1, acks_one (a := ⟨x.ep, x.seq, 0⟩) HAK.out HM.out (by have := S4.out.kp.size; omega), FD.2⟩
end Go.Proofs.Ytghgegghlefclaa

/- Walks: Receive of the specification. -/
namespace Go.Proofs.Ytghgegghlefclaa
open Go.RowKit
set_option maxHeartbeats 4000000
set_option maxRecDepth 8000
theorem rrecv_add2 (d : Dev) (x : Wr) (ta qa da la : Option Addr) (tc qc dc lc : Nat) (M : Nat → Prop) (w : World) (h : DevR w M d ta tc qa qc da dc la lc) (hM : ∀ i, M i → i < w.heap.size) (hql : d.queue.length ≤ 1000) (hdl : d.done.length ≤ 1000) (hf : formedB x = true) (hep : x.ep = d.ep) (hh : hasI d.done x.seq = false) (hw : hasSeq d.queue x.seq = false) (hf9 : d.queue.length < 64) (he : earlyW d x = false) :
    Calls Try.prog 18 #[.agg (devC d ta tc qa qc da dc la lc), .agg (wrC x)] w (RecvPost M w ({ d with queue := d.queue ++ [x] }) ([])) := by
  have KB := Lib.hid ((((Kept.refl NoM w).alloc (.cells (devC d ta tc qa qc da dc la lc) 27)).alloc (.cells (wrC x) 41)).alloc (.cells devZC 27))
  have B0 := Lib.hid (blk_old (blk_old (blk_new w (.cells (devC d ta tc qa qc da dc la lc) 27)) (.cells (wrC x) 41)) (.cells devZC 27))
  have B1 := Lib.hid (blk_old (blk_new' (w.alloc (.cells (devC d ta tc qa qc da dc la lc) 27)) (.cells (wrC x) 41) (w.heap.size + 1) (by simp)) (.cells devZC 27))
  have B4 := Lib.hid (blk_new' ((w.alloc (.cells (devC d ta tc qa qc da dc la lc) 27)).alloc (.cells (wrC x) 41)) (.cells devZC 27) (w.heap.size + 2) (by simp))
  have HH := Lib.hid h
  have HM := Lib.hid hM
  have HF := Lib.hid hf
  have FM := Lib.hid (rformed_ok x (((w.alloc (.cells (devC d ta tc qa qc da dc la lc) 27)).alloc (.cells (wrC x) 41)).alloc (.cells devZC 27)))
  clear h hM hf
  have f1 : ¬ x.ep < d.ep := by omega
  have f2 : ¬ x.ep > d.ep := by omega
  clear hep
  have HS := Lib.hid hh
  have HQ := Lib.hid hw
  clear hh hw
  have HE := Lib.hid (show earlyW ({ d with queue := d.queue ++ [x] } : Dev) x = false from he)
  clear he
  have f3 := decide_eq_false (show ¬ (64 : Int) ≤ (d.queue.length : Int) by omega)
  have f4 := decide_eq_false (show ¬ 64 ≤ d.queue.length by omega)
  have HFQ := Lib.hid hf9
  clear hf9
  go_enter Try.func18, Try.ntmps18
  go_wp2_with (first
      | (refine wpList_alloc_Z rfl 27 rfl _ (devZ _) ?_)
      | (refine wpList_load_big bigWr rfl _ rfl (w.heap.size + 1) 0 (wrC x) rfl (range_blk B1.out) rfl ?_))
  refine FM.out.mono ?_
  rintro e w1 ⟨e1, k1⟩
  rw [HF.out] at e1
  subst e1
  have K1 := Lib.hid (KB.out.trans k1)
  have C0 := Lib.hid (k1.blk B0.out (fun x => x))
  have C1 := Lib.hid (k1.blk B1.out (fun x => x))
  have C4 := Lib.hid (k1.blk B4.out (fun x => x))
  have hz1 := lt_of_block C4.out
  clear k1 KB FM B0 B1 B4
  have S0 := Lib.hid (BxSt.start (M := M) (A := w1.heap.size) C0.out C4.out C1.out ((HH.out.mono (fun i hi q => by rcases q with q | q | q | q | q; exact q; all_goals omega)).kept K1.out.of_no) K1.out ⟨by omega, by omega, by omega, by omega⟩ ⟨by omega, by omega, by omega, by omega, by omega, by omega⟩ rfl)
  have v0 := cell_blk C1.out 0 _ (wrC_0 x)
  have v1 := cell_blk C1.out 1 _ (wrC_1 x)
  clear C0 C1 C4 HH K1
  go_wp2_with (first
      | (refine wpList_alloc_Z rfl 60 rfl _ (akZ _) ?_)
      | (refine wpList_store_bign (cs := akC x 0) bigAk rfl _ _ rfl w1.heap.size (by simp) rfl rfl rfl rfl (ak1 x 0) ?_; unfold akC; generalize (w1.alloc (.cells #[.int .i64 x.ep, .int .i64 x.seq, .int .i64 0] 60)) = w2 at *; have u0 := cell_blk S0.out.hx 0 _ (wrC_0 x); have u1 := cell_blk S0.out.hx 1 _ (wrC_1 x); have y1 := cell_blk S0.out.hd 1 _ dv1; have y4 := cell_blk S0.out.hd 4 _ dv4)
      | (go_at_call 58; refine (rhas_ok _ d.done (BX M w.heap.size (w.heap.size + 2) (w.heap.size + 1) w1.heap.size) x.seq _ S0.out.rd.rd (by omega)).mono ?_; rw [HS.out]; rintro e wy ⟨rfl, rfl⟩))
  clear u0 u1 y1 y4 v0 v1
  go_loopw [8, 9] (fun t i wr => ∃ k : Nat, k ≤ d.queue.length ∧ i = .int .i64 k ∧ t = .bool (hasSeq (d.queue.take k) x.seq) ∧ Hid (BxSt w M x w.heap.size (w.heap.size + 2) (w.heap.size + 1) w1.heap.size wr (d) 0 ta qa da la tc qc dc lc)) (fun _ i _ => d.queue.length - (intOf i).toNat)
  case atStart => exact ⟨0, Nat.zero_le _, rfl, rfl, S0⟩
  case round =>
    obtain ⟨k, hk, rfl, rfl, SK⟩ := hrel
    have y3 := cell_blk SK.out.hd 3 _ dv3
    by_cases hlt : k < d.queue.length
    · have hki : (k : Int) < d.queue.length := by omega
      obtain ⟨y, hy⟩ := getAt hlt
      obtain ⟨b, off, e1, hMb, hc⟩ := wr_at SK.out.rd.rq hy
      rw [e1] at y3
      have t1 := range_cell hc 1 _ (wrC_1 y)
      have v1 := cell_blk SK.out.hx 1 _ (wrC_1 x)
      have HT := Lib.hid (hasSeq_take (n := x.seq) hy)
      clear hc hMb hy e1
      rcases hB : hasSeq (d.queue.take k) x.seq with _ | _
      · by_cases hs : y.seq = x.seq
        · have HU := Lib.hid (show hasSeq (d.queue.take (k + 1)) x.seq = true by rw [HT.out, hB]; simp [hs])
          have f4 : (y.seq == x.seq) = true := by simpa using hs
          clear hs hB HT
          go_wp2_with fail
          go_quiet (fail)
          go_wp2_with fail
          go_roundw
          case rel => exact ⟨k + 1, by omega, by go_num, by rw [HU.out], Lib.hid (SK.out.kept ((Kept.refl NoM wr).drewN _))⟩
          case measure => simp [intOf]; omega
        · have HU := Lib.hid (show hasSeq (d.queue.take (k + 1)) x.seq = false by rw [HT.out, hB]; simp [hs])
          have f4 : (y.seq == x.seq) = false := by simpa using hs
          clear hs hB HT
          go_wp2_with fail
          go_quiet (fail)
          go_wp2_with fail
          go_roundw
          case rel => exact ⟨k + 1, by omega, by go_num, by rw [HU.out], Lib.hid (SK.out.kept ((Kept.refl NoM wr).drewN _))⟩
          case measure => simp [intOf]; omega
      · have HU := Lib.hid (show hasSeq (d.queue.take (k + 1)) x.seq = true by rw [HT.out, hB]; rfl)
        clear hB HT
        go_wp2_with fail
        go_quiet (fail)
        go_wp2_with fail
        go_roundw
        case rel => exact ⟨k + 1, by omega, by go_num, by rw [HU.out], Lib.hid (SK.out.kept ((Kept.refl NoM wr).drewN _))⟩
        case measure => simp [intOf]; omega
    · obtain rfl : k = d.queue.length := by omega
      have g1 := decide_eq_false (show ¬ ((d.queue.length : Nat) : Int) < d.queue.length by omega)
      have g2 := decide_eq_false (show ¬ d.queue.length < d.queue.length by omega)
      rw [show hasSeq (d.queue.take d.queue.length) x.seq = false by rw [List.take_length]; exact HQ.out]
      go_wp2_with fail
      refine wp_region_par 6 [] [(0, 3)] [] [] [] (fun wx => Kept NoM wr wx)
            [fun v wx => ∃ b0, (v = .slice (some ⟨b0, 0, none⟩) 0 0 ∧ wr.heap.size ≤ b0) ∧ wx.heap[b0]? = some (.cells #[] 41 (0, 0)), fun v _ => v = .pointer (some ⟨w.heap.size, 3, none⟩), fun v _ => v = .slice qa d.queue.length qc, fun v wx => ∃ a5 cap5 O5, v = .slice a5 d.queue.length cap5 ∧ OwnS wx O5 41 26 EWr (.slice a5 d.queue.length cap5) d.queue ∧ ∀ o, O5 = some o → wr.heap.size ≤ o, fun v _ => v = .agg (wrC x), fun v wx => ∃ b, (v = .slice (some ⟨b, 0, none⟩) 1 1 ∧ wr.heap.size ≤ b) ∧ wx.heap[b]? = some (.cells (wrC x) 41 (0, 0))] (by kernel_rfl) (by kernel_rfl) (by kernel_rfl) (Kept.refl NoM wr).drew (inits_nil) ?_ ?_
      · intro i hi9
        have hst := stab_all (posts := [fun v wx => ∃ b0, (v = .slice (some ⟨b0, 0, none⟩) 0 0 ∧ wr.heap.size ≤ b0) ∧ wx.heap[b0]? = some (.cells #[] 41 (0, 0)), fun v _ => v = .pointer (some ⟨w.heap.size, 3, none⟩), fun v _ => v = .slice qa d.queue.length qc, fun v wx => ∃ a5 cap5 O5, v = .slice a5 d.queue.length cap5 ∧ OwnS wx O5 41 26 EWr (.slice a5 d.queue.length cap5) d.queue ∧ ∀ o, O5 = some o → wr.heap.size ≤ o, fun v _ => v = .agg (wrC x), fun v wx => ∃ b, (v = .slice (some ⟨b, 0, none⟩) 1 1 ∧ wr.heap.size ≤ b) ∧ wx.heap[b]? = some (.cells (wrC x) 41 (0, 0))])        (stab_cons (stab_blk (fun b0 v => v = .slice (some ⟨b0, 0, none⟩) 0 0 ∧ wr.heap.size ≤ b0) (fun b0 => b0) (fun b0 => .cells #[] 41 (0, 0))) (stab_cons (stab_const _) (stab_cons (stab_const _) (stab_cons (fun _ _ _ k ⟨a5, cap5, O5, q1, q2, q3⟩ => ⟨a5, cap5, O5, q1, q2.kept k (fun _ _ x => x) (fun _ _ x => x), q3⟩) (stab_cons (stab_const _) (stab_cons (stab_blk (fun b v => v = .slice (some ⟨b, 0, none⟩) 1 1 ∧ wr.heap.size ≤ b) (fun b => b) (fun b => .cells (wrC x) 41 (0, 0))) stab_nil))))))
        have hist := init_stab (inits := []) (fun p h => by cases h)
        have HST := Lib.hid hst
        have HIST := Lib.hid hist
        clear hst hist
        rcases (show i = 0 ∨ i = 1 ∨ i = 2 ∨ i = 3 ∨ i = 4 ∨ i = 5 by omega) with rfl | rfl | rfl | rfl | rfl | rfl
        · refine asks_intro ?_; intro o ho a wx hc hout hp hi R hR; cases ho
          go_simp
          exact hR _ _ (hc.alloc _) ⟨_, ⟨rfl, hc.size⟩, blk_new _ _⟩ (fun j _ _ _ _ u h => HST.out j u _ _ ((Kept.refl _ _).alloc _) h) (fun j _ h => HIST.out j _ _ ((Kept.refl _ _).alloc _) h)
        · refine asks_intro ?_; intro o ho a wx hc hout hp hi R hR; cases ho
          have e2 : a.tmps[2]? = some (.pointer (some ⟨w.heap.size, 0, none⟩)) := hout 2 rfl
          go_simp
          exact hR _ _ hc rfl (fun _ _ _ _ _ u h => h) (fun _ _ h => h)
        · refine asks_intro ?_; intro o ho a wx hc hout hp hi R hR; cases ho
          have e81 : a.tmps[81]?.getD undef = .pointer (some ⟨w.heap.size, 3, none⟩) := hp 1 (by omega) rfl
          have y3 : wx.cell? ⟨w.heap.size, 3, none⟩ = some (.slice qa d.queue.length qc) := cell_blk (hc.blk SK.out.hd (fun x => x)) 3 _ dv3
          go_simp
          exact hR _ _ hc rfl (fun _ _ _ _ _ u h => h) (fun _ _ h => h)
        · refine asks_intro ?_; intro o ho a wx hc hout hp hi R hR; cases ho
          obtain ⟨b0, e80, hb80⟩ : ∃ b0, (a.tmps[80]?.getD undef = .slice (some ⟨b0, 0, none⟩) 0 0 ∧ wr.heap.size ≤ b0) ∧ wx.heap[b0]? = some (.cells #[] 41 (0, 0)) := hp 0 (by omega) rfl
          have e82 : a.tmps[82]?.getD undef = .slice qa d.queue.length qc := hp 2 (by omega) rfl
          obtain ⟨e80, hs80⟩ := e80
          refine gives_append_S (M := BX M w.heap.size (w.heap.size + 2) (w.heap.size + 1) w1.heap.size) (xs := ([] : List Wr)) (ys := d.queue) (.tmp 80) (.tmp 82) 24 rfl 224 tyWrites (.slice (some ⟨b0, 0, none⟩) 0 0) (by go_simp) (OwnS.empty hb80) (.slice qa d.queue.length qc) (by go_simp) (SK.out.rd.rq.kept hc.of_no (fun _ _ x => x)) eWr_one (by unfold maxLen; simp; try omega) (by simp; try omega) ?_
          intro a5 cap5 w5 O5 q1 q2 q3
          have e9 : ([] : List Wr).length + (d.queue).length = d.queue.length := by simp
          rw [e9] at q1 ⊢
          have hC := hc.trans' q2 (fun i hi h => absurd (Option.some.inj h) (by omega))
          refine hR _ _ hC ⟨a5, cap5, O5, rfl, q1, fun o ho => by rcases q3 with q3 | ⟨g2, q3, q4⟩; rw [ho] at q3; cases q3; exact hs80; have := hc.size; rw [ho] at q3; cases q3; omega⟩ (fun j hj hne hcn hwf u h => ?_) (fun q hq h => ?_)
          · rcases (show j = 0 ∨ j = 1 ∨ j = 2 ∨ j = 3 ∨ j = 4 ∨ j = 5 by omega) with rfl | rfl | rfl | rfl | rfl | rfl <;> first | exact h | exact absurd hcn (by decide) | exact absurd rfl hne | (obtain ⟨b, ⟨q4, q5⟩, q6⟩ := h; exact ⟨b, ⟨q4, q5⟩, q2.blk q6 (fun e => empty_ne hb80 q6 (Option.some.inj e))⟩)
          · trivial
        · refine asks_intro ?_; intro o ho a wx hc hout hp hi R hR; cases ho
          have e3 : a.tmps[3]? = some (.pointer (some ⟨w.heap.size + 1, 0, none⟩)) := hout 3 rfl
          refine gives_load_big bigWr (.tmp 3) rfl (w.heap.size + 1) 0 (wrC x) (by go_simp) (range_blk (hc.blk SK.out.hx (fun x => x))) rfl ?_
          exact hR _ _ hc rfl (fun _ _ _ _ _ u h => h) (fun _ _ h => h)
        · refine asks_intro ?_; intro o ho a wx hc hout hp hi R hR; cases ho
          have e84 : a.tmps[84]?.getD undef = .agg (wrC x) := hp 4 (by omega) rfl
          go_simp
          exact hR _ _ (hc.alloc _) ⟨_, ⟨rfl, hc.size⟩, blk_new _ _⟩ (fun j _ _ _ _ u h => HST.out j u _ _ ((Kept.refl _ _).alloc _) h) (fun j _ h => HIST.out j _ _ ((Kept.refl _ _).alloc _) h)
      · intro vs w' hc hp
        have e81 : vs 1 = .pointer (some ⟨w.heap.size, 3, none⟩) := hp 1 (by omega) rfl
        have e82 : vs 2 = .slice qa d.queue.length qc := hp 2 (by omega) rfl
        obtain ⟨a5, cap5, O5, e83, o5, n5⟩ : ∃ a5 cap5 O5, (vs 3) = .slice a5 d.queue.length cap5 ∧ OwnS w' O5 41 26 EWr (.slice a5 d.queue.length cap5) d.queue ∧ ∀ o, O5 = some o → wr.heap.size ≤ o := hp 3 (by omega) rfl
        have e84 : vs 4 = .agg (wrC x) := hp 4 (by omega) rfl
        obtain ⟨b, e85, hb85⟩ : ∃ b, (vs 5 = .slice (some ⟨b, 0, none⟩) 1 1 ∧ wr.heap.size ≤ b) ∧ w'.heap[b]? = some (.cells (wrC x) 41 (0, 0)) := hp 5 (by omega) rfl
        simp only [List.take_succ_cons, List.take_zero, List.drop_succ_cons, List.drop_zero, putAll, Act.put, List.setIfInBounds_toArray, List.set_cons_zero, List.set_cons_succ, Nat.reduceAdd, e81, e82, e84]
        obtain ⟨e85, hs85⟩ := e85
        rw [e83, e85]
        change wpList _ _ _ _ _ _
        have HO := Lib.hid o5
        have HN5 := Lib.hid n5
        have KC := Lib.hid hc
        have HAB := Lib.hid hb85
        have HBW := Lib.hid hs85
        clear hc hp o5 n5 hb85 hs85 e81 e82 e84
        have RD1 := Lib.hid (rd_one (M := NoM) (sz := 26) (E := EWr) (x := x) HAB.out (fun x => x) rfl rfl)
        generalize hWE : w' = we at *
        go_wp2_with (first | (at_builtin; refine wpList_append_S (M := NoM) rfl (.tmp 83) (.tmp 85) 24 rfl 224 tyWrites _ rfl HO.out _ rfl RD1.out eWr_one d.queue.length 1 rfl rfl (by unfold maxLen; omega) (by omega) ?_; intro a8 cap8 w8 O8 hown hkk hnn; have hO8 : ∀ g, O8 = some g → wr.heap.size ≤ g := newO_ge HN5.out KC.out.size hnn; have S8 := Lib.hid (SK.out.kept (KC.out.trans' hkk (fun i hi e => absurd (HN5.out _ e.symm) (by omega)))); have y71 := cell_blk S8.out.hd 3 _ dv3; have y72 := free_blk S8.out.hd 3; have QR := Lib.hid (RdS.len (show d.queue.length + 1 = (d.queue ++ [x]).length by simp) (SK.out.rdn HM.out hown hO8)); have S9 : Hid (BxSt w M x w.heap.size (w.heap.size + 2) (w.heap.size + 1) w1.heap.size (w8.setCell ⟨w.heap.size, 3, none⟩ (.slice a8 (d.queue.length + 1) cap8)) ({ d with queue := d.queue ++ [x] }) 0 ta a8 da la tc cap8 dc lc) := Lib.hid (S8.out.set 3 (.slice a8 (d.queue.length + 1) cap8) (by simp [devC]) ⟨S8.out.rd.rt, QR.out, S8.out.rd.rd, S8.out.rd.rl⟩); clear hown hkk hnn hO8) | (refine wpList_load_big bigDev rfl _ rfl w.heap.size 0 (devC ({ d with queue := d.queue ++ [x] }) ta tc a8 cap8 da dc la lc) rfl (range_blk (by first | exact S4.out.hd | exact S9.out.hd)) rfl ?_) | (refine wpList_load_big bigWr rfl _ rfl (w.heap.size + 1) 0 (wrC x) rfl (range_blk S9.out.hx) rfl ?_) | (go_at_call 59; refine (rearly_ok ({ d with queue := d.queue ++ [x] }) x ta a8 da la tc cap8 dc lc _).mono ?_; rw [HE.out]; rintro e w4 ⟨rfl, k4⟩; have S4 := Lib.hid (S9.out.kept k4); clear k4) | (refine wpList_store_bigb (cs := devC ({ d with queue := d.queue ++ [x] }) ta tc a8 cap8 da dc la lc) bigDev rfl _ _ rfl (w.heap.size + 2) rfl rfl S4.out.hz rfl rfl (dev1 _ _ _ _ _ _ _ _ _) ?_))
        have GB := Lib.hid (putB_blk w4 (w.heap.size + 2) (devC ({ d with queue := d.queue ++ [x] }) ta tc a8 cap8 da dc la lc) 27 (lt_of_block S4.out.hz))
        have FD := Lib.hid (S4.out.dev ((Kept.refl (fun i => i = w.heap.size + 2) w4).putM rfl (devC ({ d with queue := d.queue ++ [x] }) ta tc a8 cap8 da dc la lc) 27))
        generalize putB w4 (w.heap.size + 2) (devC ({ d with queue := d.queue ++ [x] }) ta tc a8 cap8 da dc la lc) 27 = wx at *
        have hl0 : _root_.Go.World.cell? _ ⟨w.heap.size + 2, 0, none⟩ = _ := cell_blk GB.out 0 _ dv0
        have hl1 : _root_.Go.World.cell? _ ⟨w.heap.size + 2, 1, none⟩ = _ := cell_blk GB.out 1 _ dv1
        have hl2 : _root_.Go.World.cell? _ ⟨w.heap.size + 2, 2, none⟩ = _ := cell_blk GB.out 2 _ dv2
        have hl3 : _root_.Go.World.cell? _ ⟨w.heap.size + 2, 3, none⟩ = _ := cell_blk GB.out 3 _ dv3
        have hl4 : _root_.Go.World.cell? _ ⟨w.heap.size + 2, 4, none⟩ = _ := cell_blk GB.out 4 _ dv4
        have hl5 : _root_.Go.World.cell? _ ⟨w.heap.size + 2, 5, none⟩ = _ := cell_blk GB.out 5 _ dv5
        have hl6 : _root_.Go.World.cell? _ ⟨w.heap.size + 2, 6, none⟩ = _ := cell_blk GB.out 6 _ dv6
        refine bodyPost_ret (v := .tuple #[.agg (devC ({ d with queue := d.queue ++ [x] }) ta tc a8 cap8 da dc la lc), .slice none 0 0, .int .i64 0]) (by simp [results, Try.results18, go_sem, devC, hl0, hl1, hl2, hl3, hl4, hl5, hl6]) rfl ?_
        exact ⟨_, _, rfl, FD.out.1, acks_nil, FD.out.2⟩
end Go.Proofs.Ytghgegghlefclaa

/- Walks: Receive of the specification. -/
namespace Go.Proofs.Ytghgegghlefclaa
open Go.RowKit
set_option maxHeartbeats 4000000
set_option maxRecDepth 8000
theorem rrecv_new1 (d : Dev) (x : Wr) (ta qa da la : Option Addr) (tc qc dc lc : Nat) (M : Nat → Prop) (w : World) (h : DevR w M d ta tc qa qc da dc la lc) (hM : ∀ i, M i → i < w.heap.size) (hql : d.queue.length ≤ 1000) (hdl : d.done.length ≤ 1000) (hf : formedB x = true) (hep : d.ep < x.ep) (he : earlyW d x = true) :
    Calls Try.prog 18 #[.agg (devC d ta tc qa qc da dc la lc), .agg (wrC x)] w (RecvPost M w ({ d with ep := x.ep, queue := [x], done := [], lost := [] }) ([⟨x.ep, x.seq, 0⟩])) := by
  have KB := Lib.hid ((((Kept.refl NoM w).alloc (.cells (devC d ta tc qa qc da dc la lc) 27)).alloc (.cells (wrC x) 41)).alloc (.cells devZC 27))
  have B0 := Lib.hid (blk_old (blk_old (blk_new w (.cells (devC d ta tc qa qc da dc la lc) 27)) (.cells (wrC x) 41)) (.cells devZC 27))
  have B1 := Lib.hid (blk_old (blk_new' (w.alloc (.cells (devC d ta tc qa qc da dc la lc) 27)) (.cells (wrC x) 41) (w.heap.size + 1) (by simp)) (.cells devZC 27))
  have B4 := Lib.hid (blk_new' ((w.alloc (.cells (devC d ta tc qa qc da dc la lc) 27)).alloc (.cells (wrC x) 41)) (.cells devZC 27) (w.heap.size + 2) (by simp))
  have HH := Lib.hid h
  have HM := Lib.hid hM
  have HF := Lib.hid hf
  have FM := Lib.hid (rformed_ok x (((w.alloc (.cells (devC d ta tc qa qc da dc la lc) 27)).alloc (.cells (wrC x) 41)).alloc (.cells devZC 27)))
  clear h hM hf
  have f1 : ¬ x.ep < d.ep := by omega
  have f2 : x.ep > d.ep := hep
  have HE := Lib.hid (show earlyW { d with ep := x.ep, queue := [x], done := [], lost := [] } x = true from he)
  clear he
  clear hep
  go_enter Try.func18, Try.ntmps18
  go_wp2_with (first
      | (refine wpList_alloc_Z rfl 27 rfl _ (devZ _) ?_)
      | (refine wpList_load_big bigWr rfl _ rfl (w.heap.size + 1) 0 (wrC x) rfl (range_blk B1.out) rfl ?_))
  refine FM.out.mono ?_
  rintro e w1 ⟨e1, k1⟩
  rw [HF.out] at e1
  subst e1
  have K1 := Lib.hid (KB.out.trans k1)
  have C0 := Lib.hid (k1.blk B0.out (fun x => x))
  have C1 := Lib.hid (k1.blk B1.out (fun x => x))
  have C4 := Lib.hid (k1.blk B4.out (fun x => x))
  have hz1 := lt_of_block C4.out
  clear k1 KB FM B0 B1 B4
  have S0 := Lib.hid (BxSt.start (M := M) (A := w1.heap.size) C0.out C4.out C1.out ((HH.out.mono (fun i hi q => by rcases q with q | q | q | q | q; exact q; all_goals omega)).kept K1.out.of_no) K1.out ⟨by omega, by omega, by omega, by omega⟩ ⟨by omega, by omega, by omega, by omega, by omega, by omega⟩ rfl)
  have v0 := cell_blk C1.out 0 _ (wrC_0 x)
  have v1 := cell_blk C1.out 1 _ (wrC_1 x)
  clear C0 C1 C4 HH K1
  go_wp2_with (first
      | (refine wpList_alloc_Z rfl 60 rfl _ (akZ _) ?_)
      | (refine wpList_store_bign (cs := akC x 0) bigAk rfl _ _ rfl w1.heap.size (by simp) rfl rfl rfl rfl (ak1 x 0) ?_; unfold akC; generalize (w1.alloc (.cells #[.int .i64 x.ep, .int .i64 x.seq, .int .i64 0] 60)) = w2 at *; have u0 := cell_blk S0.out.hx 0 _ (wrC_0 x); have u1 := cell_blk S0.out.hx 1 _ (wrC_1 x); have y1 := cell_blk S0.out.hd 1 _ dv1; have y4 := cell_blk S0.out.hd 4 _ dv4; have z3 := cell_blk S0.out.hd 3 _ dv3; have o3 := free_blk S0.out.hd 3; have z5 := cell_blk S0.out.hd 5 _ dv5; have o5 := free_blk S0.out.hd 5; have o1 := free_blk S0.out.hd 1; have o4 := free_blk S0.out.hd 4; have S1 := Lib.hid (S0.out.fresh x.ep); go_wp2_with (first
      | (go_at_call 58; refine (rhas_ok _ ([] : List Int) NoM x.seq _ rd_nil0 (by simp)).mono ?_; rw [show hasI [] x.seq = false from rfl]; rintro e wy ⟨rfl, rfl⟩))))
  generalize ((((w2.setCell ⟨w.heap.size, 1, none⟩ (.int .i64 x.ep)).setCell ⟨w.heap.size, 3, none⟩ (.slice none 0 0)).setCell ⟨w.heap.size, 4, none⟩ (.slice none 0 0)).setCell ⟨w.heap.size, 5, none⟩ (.slice none 0 0)) = w3 at *
  clear u0 u1 y1 y4 v0 v1 z3 z5 o1 o3 o4 o5 S0
  go_loopw [8, 9] (fun t i wr => i = .int .i64 0 ∧ t = .bool false ∧ Hid (BxSt w M x w.heap.size (w.heap.size + 2) (w.heap.size + 1) w1.heap.size wr (({ d with ep := x.ep, queue := [], done := [], lost := [] } : Dev)) 0 ta none none none tc 0 0 0)) (fun _ _ _ => 0)
  case atStart => exact ⟨rfl, rfl, S1⟩
  case round =>
    obtain ⟨rfl, rfl, SK⟩ := hrel
    have y3 : wr.cell? ⟨w.heap.size, 3, none⟩ = some (.slice none 0 0) := cell_blk SK.out.hd 3 _ dv3
    go_wp2_with fail
    refine wp_region_par 6 [] [(0, 3)] [] [] [] (fun wx => Kept NoM wr wx)
          [fun v wx => ∃ b0, (v = .slice (some ⟨b0, 0, none⟩) 0 0 ∧ wr.heap.size ≤ b0) ∧ wx.heap[b0]? = some (.cells #[] 41 (0, 0)), fun v _ => v = .pointer (some ⟨w.heap.size, 3, none⟩), fun v _ => v = .slice none 0 0, fun v wx => ∃ a5 cap5 O5, v = .slice a5 0 cap5 ∧ OwnS wx O5 41 26 EWr (.slice a5 0 cap5) ([] : List Wr) ∧ ∀ o, O5 = some o → wr.heap.size ≤ o, fun v _ => v = .agg (wrC x), fun v wx => ∃ b, (v = .slice (some ⟨b, 0, none⟩) 1 1 ∧ wr.heap.size ≤ b) ∧ wx.heap[b]? = some (.cells (wrC x) 41 (0, 0))] (by kernel_rfl) (by kernel_rfl) (by kernel_rfl) (Kept.refl NoM wr).drew (inits_nil) ?_ ?_
    · intro i hi9
      have hst := stab_all (posts := [fun v wx => ∃ b0, (v = .slice (some ⟨b0, 0, none⟩) 0 0 ∧ wr.heap.size ≤ b0) ∧ wx.heap[b0]? = some (.cells #[] 41 (0, 0)), fun v _ => v = .pointer (some ⟨w.heap.size, 3, none⟩), fun v _ => v = .slice none 0 0, fun v wx => ∃ a5 cap5 O5, v = .slice a5 0 cap5 ∧ OwnS wx O5 41 26 EWr (.slice a5 0 cap5) ([] : List Wr) ∧ ∀ o, O5 = some o → wr.heap.size ≤ o, fun v _ => v = .agg (wrC x), fun v wx => ∃ b, (v = .slice (some ⟨b, 0, none⟩) 1 1 ∧ wr.heap.size ≤ b) ∧ wx.heap[b]? = some (.cells (wrC x) 41 (0, 0))])        (stab_cons (stab_blk (fun b0 v => v = .slice (some ⟨b0, 0, none⟩) 0 0 ∧ wr.heap.size ≤ b0) (fun b0 => b0) (fun b0 => .cells #[] 41 (0, 0))) (stab_cons (stab_const _) (stab_cons (stab_const _) (stab_cons (fun _ _ _ k ⟨a5, cap5, O5, q1, q2, q3⟩ => ⟨a5, cap5, O5, q1, q2.kept k (fun _ _ x => x) (fun _ _ x => x), q3⟩) (stab_cons (stab_const _) (stab_cons (stab_blk (fun b v => v = .slice (some ⟨b, 0, none⟩) 1 1 ∧ wr.heap.size ≤ b) (fun b => b) (fun b => .cells (wrC x) 41 (0, 0))) stab_nil))))))
      have hist := init_stab (inits := []) (fun p h => by cases h)
      have HST := Lib.hid hst
      have HIST := Lib.hid hist
      clear hst hist
      rcases (show i = 0 ∨ i = 1 ∨ i = 2 ∨ i = 3 ∨ i = 4 ∨ i = 5 by omega) with rfl | rfl | rfl | rfl | rfl | rfl
      · refine asks_intro ?_; intro o ho a wx hc hout hp hi R hR; cases ho
        go_simp
        exact hR _ _ (hc.alloc _) ⟨_, ⟨rfl, hc.size⟩, blk_new _ _⟩ (fun j _ _ _ _ u h => HST.out j u _ _ ((Kept.refl _ _).alloc _) h) (fun j _ h => HIST.out j _ _ ((Kept.refl _ _).alloc _) h)
      · refine asks_intro ?_; intro o ho a wx hc hout hp hi R hR; cases ho
        have e2 : a.tmps[2]? = some (.pointer (some ⟨w.heap.size, 0, none⟩)) := hout 2 rfl
        go_simp
        exact hR _ _ hc rfl (fun _ _ _ _ _ u h => h) (fun _ _ h => h)
      · refine asks_intro ?_; intro o ho a wx hc hout hp hi R hR; cases ho
        have e81 : a.tmps[81]?.getD undef = .pointer (some ⟨w.heap.size, 3, none⟩) := hp 1 (by omega) rfl
        have y3 : wx.cell? ⟨w.heap.size, 3, none⟩ = some (.slice none 0 0) := cell_blk (hc.blk SK.out.hd (fun x => x)) 3 _ dv3
        go_simp
        exact hR _ _ hc rfl (fun _ _ _ _ _ u h => h) (fun _ _ h => h)
      · refine asks_intro ?_; intro o ho a wx hc hout hp hi R hR; cases ho
        obtain ⟨b0, e80, hb80⟩ : ∃ b0, (a.tmps[80]?.getD undef = .slice (some ⟨b0, 0, none⟩) 0 0 ∧ wr.heap.size ≤ b0) ∧ wx.heap[b0]? = some (.cells #[] 41 (0, 0)) := hp 0 (by omega) rfl
        have e82 : a.tmps[82]?.getD undef = .slice none 0 0 := hp 2 (by omega) rfl
        obtain ⟨e80, hs80⟩ := e80
        refine gives_append_S (M := BX M w.heap.size (w.heap.size + 2) (w.heap.size + 1) w1.heap.size) (xs := ([] : List Wr)) (ys := ([] : List Wr)) (.tmp 80) (.tmp 82) 24 rfl 224 tyWrites (.slice (some ⟨b0, 0, none⟩) 0 0) (by go_simp) (OwnS.empty hb80) (.slice none 0 0) (by go_simp) (SK.out.rd.rq.kept hc.of_no (fun _ _ x => x)) eWr_one (by unfold maxLen; simp; try omega) (by simp; try omega) ?_
        intro a5 cap5 w5 O5 q1 q2 q3
        have e9 : ([] : List Wr).length + (([] : List Wr)).length = 0 := by simp
        rw [e9] at q1 ⊢
        have hC := hc.trans' q2 (fun i hi h => absurd (Option.some.inj h) (by omega))
        refine hR _ _ hC ⟨a5, cap5, O5, rfl, q1, fun o ho => by rcases q3 with q3 | ⟨g2, q3, q4⟩; rw [ho] at q3; cases q3; exact hs80; have := hc.size; rw [ho] at q3; cases q3; omega⟩ (fun j hj hne hcn hwf u h => ?_) (fun q hq h => ?_)
        · rcases (show j = 0 ∨ j = 1 ∨ j = 2 ∨ j = 3 ∨ j = 4 ∨ j = 5 by omega) with rfl | rfl | rfl | rfl | rfl | rfl <;> first | exact h | exact absurd hcn (by decide) | exact absurd rfl hne | (obtain ⟨b, ⟨q4, q5⟩, q6⟩ := h; exact ⟨b, ⟨q4, q5⟩, q2.blk q6 (fun e => empty_ne hb80 q6 (Option.some.inj e))⟩)
        · trivial
      · refine asks_intro ?_; intro o ho a wx hc hout hp hi R hR; cases ho
        have e3 : a.tmps[3]? = some (.pointer (some ⟨w.heap.size + 1, 0, none⟩)) := hout 3 rfl
        refine gives_load_big bigWr (.tmp 3) rfl (w.heap.size + 1) 0 (wrC x) (by go_simp) (range_blk (hc.blk SK.out.hx (fun x => x))) rfl ?_
        exact hR _ _ hc rfl (fun _ _ _ _ _ u h => h) (fun _ _ h => h)
      · refine asks_intro ?_; intro o ho a wx hc hout hp hi R hR; cases ho
        have e84 : a.tmps[84]?.getD undef = .agg (wrC x) := hp 4 (by omega) rfl
        go_simp
        exact hR _ _ (hc.alloc _) ⟨_, ⟨rfl, hc.size⟩, blk_new _ _⟩ (fun j _ _ _ _ u h => HST.out j u _ _ ((Kept.refl _ _).alloc _) h) (fun j _ h => HIST.out j _ _ ((Kept.refl _ _).alloc _) h)
    · intro vs w' hc hp
      have e81 : vs 1 = .pointer (some ⟨w.heap.size, 3, none⟩) := hp 1 (by omega) rfl
      have e82 : vs 2 = .slice none 0 0 := hp 2 (by omega) rfl
      obtain ⟨a5, cap5, O5, e83, o5, n5⟩ : ∃ a5 cap5 O5, (vs 3) = .slice a5 0 cap5 ∧ OwnS w' O5 41 26 EWr (.slice a5 0 cap5) ([] : List Wr) ∧ ∀ o, O5 = some o → wr.heap.size ≤ o := hp 3 (by omega) rfl
      have e84 : vs 4 = .agg (wrC x) := hp 4 (by omega) rfl
      obtain ⟨b, e85, hb85⟩ : ∃ b, (vs 5 = .slice (some ⟨b, 0, none⟩) 1 1 ∧ wr.heap.size ≤ b) ∧ w'.heap[b]? = some (.cells (wrC x) 41 (0, 0)) := hp 5 (by omega) rfl
      simp only [List.take_succ_cons, List.take_zero, List.drop_succ_cons, List.drop_zero, putAll, Act.put, List.setIfInBounds_toArray, List.set_cons_zero, List.set_cons_succ, Nat.reduceAdd, e81, e82, e84]
      obtain ⟨e85, hs85⟩ := e85
      rw [e83, e85]
      change wpList _ _ _ _ _ _
      have HO := Lib.hid o5
      have HN5 := Lib.hid n5
      have KC := Lib.hid hc
      have HAB := Lib.hid hb85
      have HBW := Lib.hid hs85
      clear hc hp o5 n5 hb85 hs85 e81 e82 e84
      have RD1 := Lib.hid (rd_one (M := NoM) (sz := 26) (E := EWr) (x := x) HAB.out (fun x => x) rfl rfl)
      generalize hWE : w' = we at *
      go_wp2_with (first | (at_builtin; refine wpList_append_S (M := NoM) rfl (.tmp 83) (.tmp 85) 24 rfl 224 tyWrites _ rfl HO.out _ rfl RD1.out eWr_one 0 1 rfl rfl (by unfold maxLen; omega) (by omega) ?_; intro a8 cap8 w8 O8 hown hkk hnn; have hO8 : ∀ g, O8 = some g → wr.heap.size ≤ g := newO_ge HN5.out KC.out.size hnn; have S8 := Lib.hid (SK.out.kept (KC.out.trans' hkk (fun i hi e => absurd (HN5.out _ e.symm) (by omega)))); have y71 := cell_blk S8.out.hd 3 _ dv3; have y72 := free_blk S8.out.hd 3; have QR := Lib.hid (RdS.len (show 0 + 1 = (([] : List Wr) ++ [x]).length by simp) (SK.out.rdn HM.out hown hO8)); have S9 : Hid (BxSt w M x w.heap.size (w.heap.size + 2) (w.heap.size + 1) w1.heap.size (w8.setCell ⟨w.heap.size, 3, none⟩ (.slice a8 (0 + 1) cap8)) ({ d with ep := x.ep, queue := [x], done := [], lost := [] }) 0 ta a8 none none tc cap8 0 0) := Lib.hid (S8.out.set 3 (.slice a8 (0 + 1) cap8) (by simp [devC]) ⟨S8.out.rd.rt, QR.out, S8.out.rd.rd, S8.out.rd.rl⟩); clear hown hkk hnn hO8) | (refine wpList_load_big bigDev rfl _ rfl w.heap.size 0 (devC ({ d with ep := x.ep, queue := [x], done := [], lost := [] }) ta tc a8 cap8 none 0 none 0) rfl (range_blk (by first | exact S4.out.hd | exact S9.out.hd)) rfl ?_) | (refine wpList_load_big bigWr rfl _ rfl (w.heap.size + 1) 0 (wrC x) rfl (range_blk S9.out.hx) rfl ?_) | (go_at_call 59; refine (rearly_ok ({ d with ep := x.ep, queue := [x], done := [], lost := [] }) x ta a8 none none tc cap8 0 0 _).mono ?_; rw [HE.out]; rintro e w4 ⟨rfl, k4⟩; have S4 := Lib.hid (S9.out.kept k4); clear k4))
      refine wp_region_par 4 [] [] [] [] [] (fun wx => CF w4 (w.heap.size + 2) wx)
            [fun v _ => v = .agg (devC ({ d with ep := x.ep, queue := [x], done := [], lost := [] }) ta tc a8 cap8 none 0 none 0), fun v _ => v = .agg (akC x 0), fun v wx => ∃ b, (v = .slice (some ⟨b, 0, none⟩) 1 1 ∧ w4.heap.size ≤ b) ∧ wx.heap[b]? = some (.cells (akC x 0) 60 (0, 0)), fun _ wx => wx.heap[w.heap.size + 2]? = some (.cells (devC ({ d with ep := x.ep, queue := [x], done := [], lost := [] }) ta tc a8 cap8 none 0 none 0) 27 (0, 0))] (by kernel_rfl) (by kernel_rfl) (by kernel_rfl) (CF.refl rfl S4.out.hz).drew (inits_nil) ?_ ?_
      · intro i hi9
        have hst := stab_all (posts := [fun v _ => v = .agg (devC ({ d with ep := x.ep, queue := [x], done := [], lost := [] }) ta tc a8 cap8 none 0 none 0), fun v _ => v = .agg (akC x 0), fun v wx => ∃ b, (v = .slice (some ⟨b, 0, none⟩) 1 1 ∧ w4.heap.size ≤ b) ∧ wx.heap[b]? = some (.cells (akC x 0) 60 (0, 0)), fun _ wx => wx.heap[w.heap.size + 2]? = some (.cells (devC ({ d with ep := x.ep, queue := [x], done := [], lost := [] }) ta tc a8 cap8 none 0 none 0) 27 (0, 0))])        (stab_cons (stab_const _) (stab_cons (stab_const _) (stab_cons (stab_blk (fun b v => v = .slice (some ⟨b, 0, none⟩) 1 1 ∧ w4.heap.size ≤ b) (fun b => b) (fun b => .cells (akC x 0) 60 (0, 0))) (stab_cons (fun _ _ _ k h => k.blk h (fun x => x)) stab_nil))))
        have hist := init_stab (inits := []) (fun p h => by cases h)
        have HST := Lib.hid hst
        have HIST := Lib.hid hist
        clear hst hist
        rcases (show i = 0 ∨ i = 1 ∨ i = 2 ∨ i = 3 by omega) with rfl | rfl | rfl | rfl
        · refine asks_intro ?_; intro o ho a wx hc hout hp hi R hR; cases ho
          have e2 : a.tmps[2]? = some (.pointer (some ⟨w.heap.size, 0, none⟩)) := hout 2 rfl
          refine gives_load_big bigDev (.tmp 2) rfl w.heap.size 0 (devC ({ d with ep := x.ep, queue := [x], done := [], lost := [] }) ta tc a8 cap8 none 0 none 0) (by go_simp) (range_blk (hc.blk S4.out.hd (by omega))) rfl ?_
          exact hR _ _ hc rfl (fun _ _ _ _ _ u h => h) (fun _ _ h => h)
        · refine asks_intro ?_; intro o ho a wx hc hout hp hi R hR; cases ho
          have e7 : a.tmps[7]? = some (.pointer (some ⟨w1.heap.size, 0, none⟩)) := hout 7 rfl
          refine gives_load_big bigAk (.tmp 7) rfl w1.heap.size 0 (akC x 0) (by go_simp) (range_blk (hc.blk S4.out.ha (by omega))) rfl ?_
          exact hR _ _ hc rfl (fun _ _ _ _ _ u h => h) (fun _ _ h => h)
        · refine asks_intro ?_; intro o ho a wx hc hout hp hi R hR; cases ho
          have e92 : a.tmps[92]?.getD undef = .agg (akC x 0) := hp 1 (by omega) rfl
          go_simp
          exact hR _ _ (hc.alloc _) ⟨_, ⟨rfl, hc.1.size⟩, blk_new _ _⟩ (fun j _ _ _ _ u h => HST.out j u _ _ ((Kept.refl _ _).alloc _) h) (fun j _ h => HIST.out j _ _ ((Kept.refl _ _).alloc _) h)
        · refine asks_intro ?_; intro o ho a wx hc hout hp hi R hR; cases ho
          have e91 : a.tmps[91]?.getD undef = .agg (devC ({ d with ep := x.ep, queue := [x], done := [], lost := [] }) ta tc a8 cap8 none 0 none 0) := hp 0 (by omega) rfl
          have e4 : a.tmps[4]? = some (.pointer (some ⟨w.heap.size + 2, 0, none⟩)) := hout 4 rfl
          obtain ⟨hck, z9, hz7, hz9⟩ := hc
          refine gives_store_bigb (cs := devC ({ d with ep := x.ep, queue := [x], done := [], lost := [] }) ta tc a8 cap8 none 0 none 0) bigDev (.tmp 4) (.tmp 91) rfl (w.heap.size + 2) (by go_simp) (by go_simp) hz9 hz7 rfl (dev1 _ _ _ _ _ _ _ _ _) ?_
          refine hR _ _ (CF.put ⟨hck, z9, hz7, hz9⟩ _ rfl) (putB_blk _ _ _ _ (lt_of_block hz9)) (fun j hj hne hcn hwf u h => ?_) (fun q hq h => ?_)
          · rcases (show j = 0 ∨ j = 1 ∨ j = 2 ∨ j = 3 by omega) with rfl | rfl | rfl | rfl <;> first | exact h | exact absurd hcn (by decide) | exact absurd rfl hne | (obtain ⟨b, ⟨q1, q2⟩, q3⟩ := h; have q2 : w4.heap.size ≤ b := q2; have hz9 := S4.out.bxlt HM.out _ (.inr (.inr (.inl rfl))); exact ⟨b, ⟨q1, q2⟩, (putB_blk_ne _ _ _ _ _ (by omega)).trans q3⟩)
          · trivial
      · intro vs w' hc hp
        have e91 : vs 0 = .agg (devC ({ d with ep := x.ep, queue := [x], done := [], lost := [] }) ta tc a8 cap8 none 0 none 0) := hp 0 (by omega) rfl
        have e92 : vs 1 = .agg (akC x 0) := hp 1 (by omega) rfl
        obtain ⟨b, e93, hb93⟩ : ∃ b, (vs 2 = .slice (some ⟨b, 0, none⟩) 1 1 ∧ w4.heap.size ≤ b) ∧ w'.heap[b]? = some (.cells (akC x 0) 60 (0, 0)) := hp 2 (by omega) rfl
        obtain ⟨_, hbg3⟩ : ∃ _ : Value, w'.heap[w.heap.size + 2]? = some (.cells (devC ({ d with ep := x.ep, queue := [x], done := [], lost := [] }) ta tc a8 cap8 none 0 none 0) 27 (0, 0)) := hp 3 (by omega) rfl
        simp only [List.take_succ_cons, List.take_zero, List.drop_succ_cons, List.drop_zero, putAll, Act.put, List.setIfInBounds_toArray, List.set_cons_zero, List.set_cons_succ, Nat.reduceAdd, e91, e92]
        obtain ⟨e93, hsb⟩ := e93
        rw [e93]
        change wpList _ _ _ _ _ _
        have HB4 := Lib.hid hbg3
        have HAK := Lib.hid hb93
        have HC9 := Lib.hid hc
        clear hbg3 hb93 hc hp
        go_wp2_with fail
        have hl0 : _root_.Go.World.cell? _ ⟨w.heap.size + 2, 0, none⟩ = _ := cell_blk HB4.out 0 _ dv0
        have hl1 : _root_.Go.World.cell? _ ⟨w.heap.size + 2, 1, none⟩ = _ := cell_blk HB4.out 1 _ dv1
        have hl2 : _root_.Go.World.cell? _ ⟨w.heap.size + 2, 2, none⟩ = _ := cell_blk HB4.out 2 _ dv2
        have hl3 : _root_.Go.World.cell? _ ⟨w.heap.size + 2, 3, none⟩ = _ := cell_blk HB4.out 3 _ dv3
        have hl4 : _root_.Go.World.cell? _ ⟨w.heap.size + 2, 4, none⟩ = _ := cell_blk HB4.out 4 _ dv4
        have hl5 : _root_.Go.World.cell? _ ⟨w.heap.size + 2, 5, none⟩ = _ := cell_blk HB4.out 5 _ dv5
        have hl6 : _root_.Go.World.cell? _ ⟨w.heap.size + 2, 6, none⟩ = _ := cell_blk HB4.out 6 _ dv6
        refine bodyPost_ret (v := .tuple #[.agg (devC ({ d with ep := x.ep, queue := [x], done := [], lost := [] }) ta tc a8 cap8 none 0 none 0), .slice (some ⟨b, 0, none⟩) 1 1, .int .i64 0]) (by simp [results, Try.results18, go_sem, devC, hl0, hl1, hl2, hl3, hl4, hl5, hl6]) rfl ?_
        have FD := S4.out.dev HC9.out.1
        exact ⟨_, _, rfl, FD.1, acks_one (a := ⟨x.ep, x.seq, 0⟩) HAK.out HM.out (by have := S4.out.kp.size; omega), FD.2⟩
end Go.Proofs.Ytghgegghlefclaa

/- Walks: Receive of the specification. -/
namespace Go.Proofs.Ytghgegghlefclaa
open Go.RowKit
set_option maxHeartbeats 4000000
set_option maxRecDepth 8000
theorem rrecv_new2 (d : Dev) (x : Wr) (ta qa da la : Option Addr) (tc qc dc lc : Nat) (M : Nat → Prop) (w : World) (h : DevR w M d ta tc qa qc da dc la lc) (hM : ∀ i, M i → i < w.heap.size) (hql : d.queue.length ≤ 1000) (hdl : d.done.length ≤ 1000) (hf : formedB x = true) (hep : d.ep < x.ep) (he : earlyW d x = false) :
    Calls Try.prog 18 #[.agg (devC d ta tc qa qc da dc la lc), .agg (wrC x)] w (RecvPost M w ({ d with ep := x.ep, queue := [x], done := [], lost := [] }) ([])) := by
  have KB := Lib.hid ((((Kept.refl NoM w).alloc (.cells (devC d ta tc qa qc da dc la lc) 27)).alloc (.cells (wrC x) 41)).alloc (.cells devZC 27))
  have B0 := Lib.hid (blk_old (blk_old (blk_new w (.cells (devC d ta tc qa qc da dc la lc) 27)) (.cells (wrC x) 41)) (.cells devZC 27))
  have B1 := Lib.hid (blk_old (blk_new' (w.alloc (.cells (devC d ta tc qa qc da dc la lc) 27)) (.cells (wrC x) 41) (w.heap.size + 1) (by simp)) (.cells devZC 27))
  have B4 := Lib.hid (blk_new' ((w.alloc (.cells (devC d ta tc qa qc da dc la lc) 27)).alloc (.cells (wrC x) 41)) (.cells devZC 27) (w.heap.size + 2) (by simp))
  have HH := Lib.hid h
  have HM := Lib.hid hM
  have HF := Lib.hid hf
  have FM := Lib.hid (rformed_ok x (((w.alloc (.cells (devC d ta tc qa qc da dc la lc) 27)).alloc (.cells (wrC x) 41)).alloc (.cells devZC 27)))
  clear h hM hf
  have f1 : ¬ x.ep < d.ep := by omega
  have f2 : x.ep > d.ep := hep
  have HE := Lib.hid (show earlyW { d with ep := x.ep, queue := [x], done := [], lost := [] } x = false from he)
  clear he
  clear hep
  go_enter Try.func18, Try.ntmps18
  go_wp2_with (first
      | (refine wpList_alloc_Z rfl 27 rfl _ (devZ _) ?_)
      | (refine wpList_load_big bigWr rfl _ rfl (w.heap.size + 1) 0 (wrC x) rfl (range_blk B1.out) rfl ?_))
  refine FM.out.mono ?_
  rintro e w1 ⟨e1, k1⟩
  rw [HF.out] at e1
  subst e1
  have K1 := Lib.hid (KB.out.trans k1)
  have C0 := Lib.hid (k1.blk B0.out (fun x => x))
  have C1 := Lib.hid (k1.blk B1.out (fun x => x))
  have C4 := Lib.hid (k1.blk B4.out (fun x => x))
  have hz1 := lt_of_block C4.out
  clear k1 KB FM B0 B1 B4
  have S0 := Lib.hid (BxSt.start (M := M) (A := w1.heap.size) C0.out C4.out C1.out ((HH.out.mono (fun i hi q => by rcases q with q | q | q | q | q; exact q; all_goals omega)).kept K1.out.of_no) K1.out ⟨by omega, by omega, by omega, by omega⟩ ⟨by omega, by omega, by omega, by omega, by omega, by omega⟩ rfl)
  have v0 := cell_blk C1.out 0 _ (wrC_0 x)
  have v1 := cell_blk C1.out 1 _ (wrC_1 x)
  clear C0 C1 C4 HH K1
  go_wp2_with (first
      | (refine wpList_alloc_Z rfl 60 rfl _ (akZ _) ?_)
      | (refine wpList_store_bign (cs := akC x 0) bigAk rfl _ _ rfl w1.heap.size (by simp) rfl rfl rfl rfl (ak1 x 0) ?_; unfold akC; generalize (w1.alloc (.cells #[.int .i64 x.ep, .int .i64 x.seq, .int .i64 0] 60)) = w2 at *; have u0 := cell_blk S0.out.hx 0 _ (wrC_0 x); have u1 := cell_blk S0.out.hx 1 _ (wrC_1 x); have y1 := cell_blk S0.out.hd 1 _ dv1; have y4 := cell_blk S0.out.hd 4 _ dv4; have z3 := cell_blk S0.out.hd 3 _ dv3; have o3 := free_blk S0.out.hd 3; have z5 := cell_blk S0.out.hd 5 _ dv5; have o5 := free_blk S0.out.hd 5; have o1 := free_blk S0.out.hd 1; have o4 := free_blk S0.out.hd 4; have S1 := Lib.hid (S0.out.fresh x.ep); go_wp2_with (first
      | (go_at_call 58; refine (rhas_ok _ ([] : List Int) NoM x.seq _ rd_nil0 (by simp)).mono ?_; rw [show hasI [] x.seq = false from rfl]; rintro e wy ⟨rfl, rfl⟩))))
  generalize ((((w2.setCell ⟨w.heap.size, 1, none⟩ (.int .i64 x.ep)).setCell ⟨w.heap.size, 3, none⟩ (.slice none 0 0)).setCell ⟨w.heap.size, 4, none⟩ (.slice none 0 0)).setCell ⟨w.heap.size, 5, none⟩ (.slice none 0 0)) = w3 at *
  clear u0 u1 y1 y4 v0 v1 z3 z5 o1 o3 o4 o5 S0
  go_loopw [8, 9] (fun t i wr => i = .int .i64 0 ∧ t = .bool false ∧ Hid (BxSt w M x w.heap.size (w.heap.size + 2) (w.heap.size + 1) w1.heap.size wr (({ d with ep := x.ep, queue := [], done := [], lost := [] } : Dev)) 0 ta none none none tc 0 0 0)) (fun _ _ _ => 0)
  case atStart => exact ⟨rfl, rfl, S1⟩
  case round =>
    obtain ⟨rfl, rfl, SK⟩ := hrel
    have y3 : wr.cell? ⟨w.heap.size, 3, none⟩ = some (.slice none 0 0) := cell_blk SK.out.hd 3 _ dv3
    go_wp2_with fail
    refine wp_region_par 6 [] [(0, 3)] [] [] [] (fun wx => Kept NoM wr wx)
          [fun v wx => ∃ b0, (v = .slice (some ⟨b0, 0, none⟩) 0 0 ∧ wr.heap.size ≤ b0) ∧ wx.heap[b0]? = some (.cells #[] 41 (0, 0)), fun v _ => v = .pointer (some ⟨w.heap.size, 3, none⟩), fun v _ => v = .slice none 0 0, fun v wx => ∃ a5 cap5 O5, v = .slice a5 0 cap5 ∧ OwnS wx O5 41 26 EWr (.slice a5 0 cap5) ([] : List Wr) ∧ ∀ o, O5 = some o → wr.heap.size ≤ o, fun v _ => v = .agg (wrC x), fun v wx => ∃ b, (v = .slice (some ⟨b, 0, none⟩) 1 1 ∧ wr.heap.size ≤ b) ∧ wx.heap[b]? = some (.cells (wrC x) 41 (0, 0))] (by kernel_rfl) (by kernel_rfl) (by kernel_rfl) (Kept.refl NoM wr).drew (inits_nil) ?_ ?_
    · intro i hi9
      have hst := stab_all (posts := [fun v wx => ∃ b0, (v = .slice (some ⟨b0, 0, none⟩) 0 0 ∧ wr.heap.size ≤ b0) ∧ wx.heap[b0]? = some (.cells #[] 41 (0, 0)), fun v _ => v = .pointer (some ⟨w.heap.size, 3, none⟩), fun v _ => v = .slice none 0 0, fun v wx => ∃ a5 cap5 O5, v = .slice a5 0 cap5 ∧ OwnS wx O5 41 26 EWr (.slice a5 0 cap5) ([] : List Wr) ∧ ∀ o, O5 = some o → wr.heap.size ≤ o, fun v _ => v = .agg (wrC x), fun v wx => ∃ b, (v = .slice (some ⟨b, 0, none⟩) 1 1 ∧ wr.heap.size ≤ b) ∧ wx.heap[b]? = some (.cells (wrC x) 41 (0, 0))])        (stab_cons (stab_blk (fun b0 v => v = .slice (some ⟨b0, 0, none⟩) 0 0 ∧ wr.heap.size ≤ b0) (fun b0 => b0) (fun b0 => .cells #[] 41 (0, 0))) (stab_cons (stab_const _) (stab_cons (stab_const _) (stab_cons (fun _ _ _ k ⟨a5, cap5, O5, q1, q2, q3⟩ => ⟨a5, cap5, O5, q1, q2.kept k (fun _ _ x => x) (fun _ _ x => x), q3⟩) (stab_cons (stab_const _) (stab_cons (stab_blk (fun b v => v = .slice (some ⟨b, 0, none⟩) 1 1 ∧ wr.heap.size ≤ b) (fun b => b) (fun b => .cells (wrC x) 41 (0, 0))) stab_nil))))))
      have hist := init_stab (inits := []) (fun p h => by cases h)
      have HST := Lib.hid hst
      have HIST := Lib.hid hist
      clear hst hist
      rcases (show i = 0 ∨ i = 1 ∨ i = 2 ∨ i = 3 ∨ i = 4 ∨ i = 5 by omega) with rfl | rfl | rfl | rfl | rfl | rfl
      · refine asks_intro ?_; intro o ho a wx hc hout hp hi R hR; cases ho
        go_simp
        exact hR _ _ (hc.alloc _) ⟨_, ⟨rfl, hc.size⟩, blk_new _ _⟩ (fun j _ _ _ _ u h => HST.out j u _ _ ((Kept.refl _ _).alloc _) h) (fun j _ h => HIST.out j _ _ ((Kept.refl _ _).alloc _) h)
      · refine asks_intro ?_; intro o ho a wx hc hout hp hi R hR; cases ho
        have e2 : a.tmps[2]? = some (.pointer (some ⟨w.heap.size, 0, none⟩)) := hout 2 rfl
        go_simp
        exact hR _ _ hc rfl (fun _ _ _ _ _ u h => h) (fun _ _ h => h)
      · refine asks_intro ?_; intro o ho a wx hc hout hp hi R hR; cases ho
        have e81 : a.tmps[81]?.getD undef = .pointer (some ⟨w.heap.size, 3, none⟩) := hp 1 (by omega) rfl
        have y3 : wx.cell? ⟨w.heap.size, 3, none⟩ = some (.slice none 0 0) := cell_blk (hc.blk SK.out.hd (fun x => x)) 3 _ dv3
        go_simp
        exact hR _ _ hc rfl (fun _ _ _ _ _ u h => h) (fun _ _ h => h)
      · refine asks_intro ?_; intro o ho a wx hc hout hp hi R hR; cases ho
        obtain ⟨b0, e80, hb80⟩ : ∃ b0, (a.tmps[80]?.getD undef = .slice (some ⟨b0, 0, none⟩) 0 0 ∧ wr.heap.size ≤ b0) ∧ wx.heap[b0]? = some (.cells #[] 41 (0, 0)) := hp 0 (by omega) rfl
        have e82 : a.tmps[82]?.getD undef = .slice none 0 0 := hp 2 (by omega) rfl
        obtain ⟨e80, hs80⟩ := e80
        refine gives_append_S (M := BX M w.heap.size (w.heap.size + 2) (w.heap.size + 1) w1.heap.size) (xs := ([] : List Wr)) (ys := ([] : List Wr)) (.tmp 80) (.tmp 82) 24 rfl 224 tyWrites (.slice (some ⟨b0, 0, none⟩) 0 0) (by go_simp) (OwnS.empty hb80) (.slice none 0 0) (by go_simp) (SK.out.rd.rq.kept hc.of_no (fun _ _ x => x)) eWr_one (by unfold maxLen; simp; try omega) (by simp; try omega) ?_
        intro a5 cap5 w5 O5 q1 q2 q3
        have e9 : ([] : List Wr).length + (([] : List Wr)).length = 0 := by simp
        rw [e9] at q1 ⊢
        have hC := hc.trans' q2 (fun i hi h => absurd (Option.some.inj h) (by omega))
        refine hR _ _ hC ⟨a5, cap5, O5, rfl, q1, fun o ho => by rcases q3 with q3 | ⟨g2, q3, q4⟩; rw [ho] at q3; cases q3; exact hs80; have := hc.size; rw [ho] at q3; cases q3; omega⟩ (fun j hj hne hcn hwf u h => ?_) (fun q hq h => ?_)
        · rcases (show j = 0 ∨ j = 1 ∨ j = 2 ∨ j = 3 ∨ j = 4 ∨ j = 5 by omega) with rfl | rfl | rfl | rfl | rfl | rfl <;> first | exact h | exact absurd hcn (by decide) | exact absurd rfl hne | (obtain ⟨b, ⟨q4, q5⟩, q6⟩ := h; exact ⟨b, ⟨q4, q5⟩, q2.blk q6 (fun e => empty_ne hb80 q6 (Option.some.inj e))⟩)
        · trivial
      · refine asks_intro ?_; intro o ho a wx hc hout hp hi R hR; cases ho
        have e3 : a.tmps[3]? = some (.pointer (some ⟨w.heap.size + 1, 0, none⟩)) := hout 3 rfl
        refine gives_load_big bigWr (.tmp 3) rfl (w.heap.size + 1) 0 (wrC x) (by go_simp) (range_blk (hc.blk SK.out.hx (fun x => x))) rfl ?_
        exact hR _ _ hc rfl (fun _ _ _ _ _ u h => h) (fun _ _ h => h)
      · refine asks_intro ?_; intro o ho a wx hc hout hp hi R hR; cases ho
        have e84 : a.tmps[84]?.getD undef = .agg (wrC x) := hp 4 (by omega) rfl
        go_simp
        exact hR _ _ (hc.alloc _) ⟨_, ⟨rfl, hc.size⟩, blk_new _ _⟩ (fun j _ _ _ _ u h => HST.out j u _ _ ((Kept.refl _ _).alloc _) h) (fun j _ h => HIST.out j _ _ ((Kept.refl _ _).alloc _) h)
    · intro vs w' hc hp
      have e81 : vs 1 = .pointer (some ⟨w.heap.size, 3, none⟩) := hp 1 (by omega) rfl
      have e82 : vs 2 = .slice none 0 0 := hp 2 (by omega) rfl
      obtain ⟨a5, cap5, O5, e83, o5, n5⟩ : ∃ a5 cap5 O5, (vs 3) = .slice a5 0 cap5 ∧ OwnS w' O5 41 26 EWr (.slice a5 0 cap5) ([] : List Wr) ∧ ∀ o, O5 = some o → wr.heap.size ≤ o := hp 3 (by omega) rfl
      have e84 : vs 4 = .agg (wrC x) := hp 4 (by omega) rfl
      obtain ⟨b, e85, hb85⟩ : ∃ b, (vs 5 = .slice (some ⟨b, 0, none⟩) 1 1 ∧ wr.heap.size ≤ b) ∧ w'.heap[b]? = some (.cells (wrC x) 41 (0, 0)) := hp 5 (by omega) rfl
      simp only [List.take_succ_cons, List.take_zero, List.drop_succ_cons, List.drop_zero, putAll, Act.put, List.setIfInBounds_toArray, List.set_cons_zero, List.set_cons_succ, Nat.reduceAdd, e81, e82, e84]
      obtain ⟨e85, hs85⟩ := e85
      rw [e83, e85]
      change wpList _ _ _ _ _ _
      have HO := Lib.hid o5
      have HN5 := Lib.hid n5
      have KC := Lib.hid hc
      have HAB := Lib.hid hb85
      have HBW := Lib.hid hs85
      clear hc hp o5 n5 hb85 hs85 e81 e82 e84
      have RD1 := Lib.hid (rd_one (M := NoM) (sz := 26) (E := EWr) (x := x) HAB.out (fun x => x) rfl rfl)
      generalize hWE : w' = we at *
      go_wp2_with (first | (at_builtin; refine wpList_append_S (M := NoM) rfl (.tmp 83) (.tmp 85) 24 rfl 224 tyWrites _ rfl HO.out _ rfl RD1.out eWr_one 0 1 rfl rfl (by unfold maxLen; omega) (by omega) ?_; intro a8 cap8 w8 O8 hown hkk hnn; have hO8 : ∀ g, O8 = some g → wr.heap.size ≤ g := newO_ge HN5.out KC.out.size hnn; have S8 := Lib.hid (SK.out.kept (KC.out.trans' hkk (fun i hi e => absurd (HN5.out _ e.symm) (by omega)))); have y71 := cell_blk S8.out.hd 3 _ dv3; have y72 := free_blk S8.out.hd 3; have QR := Lib.hid (RdS.len (show 0 + 1 = (([] : List Wr) ++ [x]).length by simp) (SK.out.rdn HM.out hown hO8)); have S9 : Hid (BxSt w M x w.heap.size (w.heap.size + 2) (w.heap.size + 1) w1.heap.size (w8.setCell ⟨w.heap.size, 3, none⟩ (.slice a8 (0 + 1) cap8)) ({ d with ep := x.ep, queue := [x], done := [], lost := [] }) 0 ta a8 none none tc cap8 0 0) := Lib.hid (S8.out.set 3 (.slice a8 (0 + 1) cap8) (by simp [devC]) ⟨S8.out.rd.rt, QR.out, S8.out.rd.rd, S8.out.rd.rl⟩); clear hown hkk hnn hO8) | (refine wpList_load_big bigDev rfl _ rfl w.heap.size 0 (devC ({ d with ep := x.ep, queue := [x], done := [], lost := [] }) ta tc a8 cap8 none 0 none 0) rfl (range_blk (by first | exact S4.out.hd | exact S9.out.hd)) rfl ?_) | (refine wpList_load_big bigWr rfl _ rfl (w.heap.size + 1) 0 (wrC x) rfl (range_blk S9.out.hx) rfl ?_) | (go_at_call 59; refine (rearly_ok ({ d with ep := x.ep, queue := [x], done := [], lost := [] }) x ta a8 none none tc cap8 0 0 _).mono ?_; rw [HE.out]; rintro e w4 ⟨rfl, k4⟩; have S4 := Lib.hid (S9.out.kept k4); clear k4) | (refine wpList_store_bigb (cs := devC ({ d with ep := x.ep, queue := [x], done := [], lost := [] }) ta tc a8 cap8 none 0 none 0) bigDev rfl _ _ rfl (w.heap.size + 2) rfl rfl S4.out.hz rfl rfl (dev1 _ _ _ _ _ _ _ _ _) ?_))
      have GB := Lib.hid (putB_blk w4 (w.heap.size + 2) (devC ({ d with ep := x.ep, queue := [x], done := [], lost := [] }) ta tc a8 cap8 none 0 none 0) 27 (lt_of_block S4.out.hz))
      have FD := Lib.hid (S4.out.dev ((Kept.refl (fun i => i = w.heap.size + 2) w4).putM rfl (devC ({ d with ep := x.ep, queue := [x], done := [], lost := [] }) ta tc a8 cap8 none 0 none 0) 27))
      generalize putB w4 (w.heap.size + 2) (devC ({ d with ep := x.ep, queue := [x], done := [], lost := [] }) ta tc a8 cap8 none 0 none 0) 27 = wx at *
      have hl0 : _root_.Go.World.cell? _ ⟨w.heap.size + 2, 0, none⟩ = _ := cell_blk GB.out 0 _ dv0
      have hl1 : _root_.Go.World.cell? _ ⟨w.heap.size + 2, 1, none⟩ = _ := cell_blk GB.out 1 _ dv1
      have hl2 : _root_.Go.World.cell? _ ⟨w.heap.size + 2, 2, none⟩ = _ := cell_blk GB.out 2 _ dv2
      have hl3 : _root_.Go.World.cell? _ ⟨w.heap.size + 2, 3, none⟩ = _ := cell_blk GB.out 3 _ dv3
      have hl4 : _root_.Go.World.cell? _ ⟨w.heap.size + 2, 4, none⟩ = _ := cell_blk GB.out 4 _ dv4
      have hl5 : _root_.Go.World.cell? _ ⟨w.heap.size + 2, 5, none⟩ = _ := cell_blk GB.out 5 _ dv5
      have hl6 : _root_.Go.World.cell? _ ⟨w.heap.size + 2, 6, none⟩ = _ := cell_blk GB.out 6 _ dv6
      refine bodyPost_ret (v := .tuple #[.agg (devC ({ d with ep := x.ep, queue := [x], done := [], lost := [] }) ta tc a8 cap8 none 0 none 0), .slice none 0 0, .int .i64 0]) (by simp [results, Try.results18, go_sem, devC, hl0, hl1, hl2, hl3, hl4, hl5, hl6]) rfl ?_
      exact ⟨_, _, rfl, FD.out.1, acks_nil, FD.out.2⟩
end Go.Proofs.Ytghgegghlefclaa

/- Walks: Receive of the specification, all ways. -/
namespace Go.Proofs.Ytghgegghlefclaa
open Go.RowKit
set_option maxHeartbeats 2000000
theorem rrecv_ok (v : Value) (d : Dev) (x : Wr) (M : Nat → Prop) (w : World) (h : DevV w M v d) (hM : ∀ i, M i → i < w.heap.size) (hql : d.queue.length ≤ 64) (hdl : d.done.length ≤ 1000) (hF : formedB x = true) :
    Calls Try.prog 18 #[v, .agg (wrC x)] w (RecvPost M w (recvD d x) (recvA d x)) := by
  obtain ⟨ta, tc, qa, qc, da, dc, la, lc, rfl, h⟩ := h
  have hq2 : d.queue.length ≤ 1000 := by omega
  by_cases h1 : x.ep < d.ep
  · obtain ⟨e1, e2⟩ := recv_old h1
    rw [e1, e2]
    exact rrecv_less d x ta qa da la tc qc dc lc M w h hM hq2 hdl hF h1
  by_cases h2 : d.ep < x.ep
  · rw [recv_new h2, recvA_new h2]
    cases he : earlyW d x with
    | true => exact rrecv_new1 d x ta qa da la tc qc dc lc M w h hM hq2 hdl hF h2 he
    | false => exact rrecv_new2 d x ta qa da la tc qc dc lc M w h hM hq2 hdl hF h2 he
  have hep : x.ep = d.ep := by omega
  have hfr : fresh d x = d := fresh_same h2
  unfold recvD recvA
  rw [if_neg h1, if_neg h1, hfr]
  cases hh : hasI d.done x.seq with
  | true => exact rrecv_done d x ta qa da la tc qc dc lc M w h hM hq2 hdl hF hep hh
  | false =>
    cases hw : hasSeq d.queue x.seq with
    | true =>
      cases he : earlyW d x with
      | true => exact rrecv_wait1 d x ta qa da la tc qc dc lc M w h hM hq2 hdl hF hep hh hw he
      | false => exact rrecv_wait2 d x ta qa da la tc qc dc lc M w h hM hq2 hdl hF hep hh hw he
    | false =>
      by_cases hf : 64 ≤ d.queue.length
      · simp only [Bool.false_eq_true, if_false, if_pos hf]
        exact rrecv_full d x ta qa da la tc qc dc lc M w h hM hq2 hdl hF hep hh hw (by omega)
      · simp only [Bool.false_eq_true, if_false, if_neg hf]
        cases he : earlyW d x with
        | true => exact rrecv_add1 d x ta qa da la tc qc dc lc M w h hM hq2 hdl hF hep hh hw (by omega) he
        | false => exact rrecv_add2 d x ta qa da la tc qc dc lc M w h hM hq2 hdl hF hep hh hw (by omega) he
end Go.Proofs.Ytghgegghlefclaa
