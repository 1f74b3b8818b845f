/- Texts that belong together: W58, W59, W60, W61. -/
import Derived.Test.YtghgegghlefclaaKV15
import Derived.Test.YtghgegghlefclaaKW36
import Derived.Test.YtghgegghlefclaaKW23
import Derived.Test.YtghgegghlefclaaKW26
set_option linter.unusedVariables false
set_option linter.unusedSimpArgs false
set_option linter.unusedSectionVars false
/- Walks: Do of the specification. -/
namespace Go.Proofs.Ytghgegghlefclaa
open Go.RowKit
set_option maxHeartbeats 4000000
set_option maxRecDepth 8000
theorem rdo_l2 (d : Dev) (kn : Nat) (x : Wr) (ta qa da la : Option Addr) (tc qc dc lc : Nat) (M : Nat → Prop) (w : World) (h : DevR w M d ta tc qa qc da dc la lc) (hM : ∀ i, M i → i < w.heap.size) (hk : d.queue[kn]? = some x) (hr : rdyB d.queue kn = true)
    (hql : d.queue.length ≤ 1000) (htl : d.table.length ≤ 1000) (hdl : d.done.length ≤ 1000) (hll : d.lost.length ≤ 1000) (hdt : DecT d.table) (hlo : hasI d.lost x.seq = true) (he : earlyW d x = false) :
    Calls Try.prog 19 #[.agg (devC d ta tc qa qc da dc la lc), .int .i64 kn] w (DoPost M w ({ d with queue := d.queue.eraseIdx kn, done := insI x.seq d.done }) ([⟨x.ep, x.seq, 0⟩])) := by
  obtain ⟨qb, qo, rfl, _, hc0⟩ := wr_at h.rq hk
  have hkl := (List.getElem?_eq_some_iff.1 hk).1
  have hki : (kn : Int) < d.queue.length := by omega
  have KB := Lib.hid (((Kept.refl NoM w).alloc (.cells (devC d ta tc (some ⟨qb, qo, none⟩) qc da dc la lc) 27)).alloc (.cells devZC 27))
  have B0 := Lib.hid (blk_old (blk_new w (.cells (devC d ta tc (some ⟨qb, qo, none⟩) qc da dc la lc) 27)) (.cells devZC 27))
  have B4 := Lib.hid (blk_new' (w.alloc (.cells (devC d ta tc (some ⟨qb, qo, none⟩) qc da dc la lc) 27)) (.cells devZC 27) (w.heap.size + 1) (by simp))
  have y3 := cell_blk B0.out 3 _ dv3
  have f0 := decide_eq_false (show ¬ (kn : Int) < 0 by omega)
  have f1 := decide_eq_false (show ¬ (d.queue.length : Int) ≤ (kn : Int) by omega)
  have f2 := decide_eq_false (show ¬ d.queue.length ≤ kn by omega)
  have RD := Lib.hid (rready1_ok d ta (some ⟨qb, qo, none⟩) da la tc qc dc lc M _ (h.rq.kept KB.out.of_no (fun _ _ x => x)) (by omega) kn hkl)
  rw [hr] at RD
  obtain ⟨ti, hti, htz⟩ := info_of (P := Try.prog) (e := 41) (n := 26) (by kernel_rfl)
  obtain ⟨sa, sc, hs1, hr1⟩ := RdS.slice (P := Try.prog) 24 41 ti Try.underlying24 hti htz h.rq 0 kn (Nat.zero_le _) (Nat.le_of_lt hkl) none (.inr ⟨rfl, rfl⟩)
  obtain ⟨sb, sd, hs2, hr2⟩ := RdS.sliceFrom (P := Try.prog) 24 41 ti Try.underlying24 hti htz h.rq (kn + 1) hkl
  have hs2 : ∀ wx, (Instr.slice 24 (.slice (some ⟨qb, qo, none⟩) d.queue.length qc) (some (.int .i64 ((kn : Int) + 1))) none none).run Try.prog wx = .ok (.slice sb (d.queue.length - (kn + 1)) sd) wx := hs2
  rw [Nat.sub_zero] at hr1
  simp only [Nat.sub_zero] at hs1
  rw [List.drop_zero] at hr1
  have HR1 := Lib.hid hr1
  have HR2 := Lib.hid hr2
  have HC0 := Lib.hid (rangeAt_kept (M := NoM) hc0 (Kept.refl _ _) (fun x => x))
  have HH := Lib.hid h
  have HM := Lib.hid hM
  have hw1 : IntKind.i64.wrap ((kn : Int) + 1) = (kn : Int) + 1 := IntWalk.i64_in _ (by omega)
  have HLE := Lib.hid (cut_len hkl)
  have HQL := Lib.hid (show d.queue.length ≤ 1000000 by omega)
  have HTK : Hid ((d.queue.take kn).length = kn) := Lib.hid (by rw [List.length_take]; omega)
  have HDP : Hid ((d.queue.drop (kn + 1)).length = d.queue.length - (kn + 1)) := Lib.hid (by rw [List.length_drop])
  have HDT := Lib.hid hdt
  clear h hM hc0 hr hr1 hr2 hdt
  have HLO := Lib.hid hlo
  have HE := Lib.hid (show earlyW ({ d with queue := d.queue.eraseIdx kn, done := insI x.seq d.done } : Dev) x = false from he)
  clear hlo he
  go_enter Try.func19, Try.ntmps19
  go_wp2_with (first
      | (refine wpList_alloc_Z rfl 27 rfl _ (devZ _) ?_)
      | (refine wpList_alloc_Z rfl 41 rfl _ (wrZ _) ?_)
      | (refine wpList_load_bigG bigDev (by rfl) _ rfl w.heap.size 0 (devC d ta tc (some ⟨qb, qo, none⟩) qc da dc la lc) rfl (range_blk B0.out) rfl ?_)
      | (refine wpList_load_big bigWr rfl _ rfl qb (qo + kn * 26) (wrC x) rfl HC1.out rfl ?_)
      | (go_at_call 60; refine RD.out.mono ?_; rintro e w1 ⟨rfl, k1⟩; have K1 := Lib.hid (KB.out.trans k1); have C0 := Lib.hid (k1.blk B0.out (fun x => x)); have C4 := Lib.hid (k1.blk B4.out (fun x => x)); have HC1 := Lib.hid (rangeAt_kept HC0.out K1.out (fun x => x)); have t3 := cell_blk C0.out 3 _ dv3; have hz1 := lt_of_block C4.out; clear k1 RD)
      | (refine wpList_store_bign bigWr rfl _ _ rfl _ rfl rfl rfl rfl rfl (wr1 x) ?_; have K2 := Lib.hid (K1.out.alloc (.cells (wrC x) 41)); have S2 := Lib.hid (show BxQ w M x w.heap.size (w.heap.size + 1) w1.heap.size (w1.alloc (.cells (wrC x) 41)) d ta (some ⟨qb, qo, none⟩) da la tc qc dc lc from ⟨blk_old C0.out _, blk_old C4.out _, blk_new _ _, (HH.out.mono (fun i hi q => by rcases q with q | q | q | q | q; exact q; all_goals omega)).kept (K1.out.alloc _).of_no, K1.out.alloc _, ⟨by omega, by omega, by omega⟩, ⟨by omega, by omega, by omega⟩⟩); have RT := Lib.hid (HR1.out.kept K2.out.of_no (fun _ _ x => x)); generalize (w1.alloc (.cells (wrC x) 41)) = w2 at *; have s3 := cell_blk S2.out.hd 3 _ dv3; clear t3)
      | (at_builtin; refine wpList_append_S (M := M) rfl (.tmp 35) (.tmp 39) 24 rfl 224 tyWrites _ rfl (OwnS.nil w2 _ _ _) _ rfl RT.out eWr_one 0 kn rfl HTK.out (by unfold maxLen; have := HQL.out; omega) (by omega) ?_; rw [Nat.zero_add, List.nil_append]; intro a3 cap3 w3 O3 hown hkk hnn; have k23 : Kept NoM w2 w3 := hkk.mono (fun i _ q => by cases q); have S3 := Lib.hid (S2.out.kept k23); have OW3 := Lib.hid hown; have N3 := Lib.hid hnn; have RD3 := Lib.hid ((HR2.out.kept K2.out.of_no (fun _ _ x => x)).kept k23.of_no (fun _ _ x => x)); have t3 := cell_blk S3.out.hd 3 _ dv3; have K23 := Lib.hid k23; clear hown hkk hnn k23 s3)
      | (at_builtin; refine wpList_append_S (M := M) rfl (.tmp 41) (.tmp 46) 24 rfl 224 tyWrites _ rfl OW3.out _ rfl RD3.out eWr_one kn (d.queue.length - (kn + 1)) HTK.out HDP.out (by unfold maxLen; have := HQL.out; omega) (by have := HQL.out; omega) ?_; rw [HLE.out, ← List.eraseIdx_eq_take_drop_succ]; intro a4 cap4 w4 O4 hown hkk hnn; have S4 := Lib.hid (S2.out.kept (K23.out.trans' hkk (fun i hi e => newO_no N3.out i hi e))); have QR : Hid (RdS w4 (BX M w.heap.size (w.heap.size + 1) w1.heap.size w1.heap.size) 26 EWr (.slice a4 (d.queue.eraseIdx kn).length cap4) (d.queue.eraseIdx kn)) := Lib.hid (S2.out.rdn HM.out hown (newO_le (N3.out.trans hnn K23.out.size))); have S5 : Hid (BxQ w M x w.heap.size (w.heap.size + 1) w1.heap.size (w4.setCell ⟨w.heap.size, 3, none⟩ (.slice a4 (d.queue.eraseIdx kn).length cap4)) ({ d with queue := d.queue.eraseIdx kn } : Dev) ta a4 da la tc cap4 dc lc) := Lib.hid (S4.out.set 3 _ (by simp [devC]) ⟨S4.out.rd.rt, QR.out, S4.out.rd.rd, S4.out.rd.rl⟩); have c3 := cell_blk S4.out.hd 3 _ dv3; have e3 := free_blk S4.out.hd 3; have c5 := cell_blk S4.out.hd 5 _ dv5; have u1 := cell_blk S4.out.hx 1 _ (wrC_1 x); clear hown hkk hnn))
  refine (rhas_ok _ d.lost (BX M w.heap.size (w.heap.size + 1) w1.heap.size w1.heap.size) x.seq _ S5.out.rd.rl (by omega)).mono ?_
  rw [HLO.out]
  rintro e wz ⟨rfl, rfl⟩
  clear hs1 hs2 t3 c3 e3 c5 u1 y3 B0 B4 KB C0 C4 HC0 HC1 HR1 HR2 RT RD3 S2 S3 S4 OW3 QR hw1 f0 f1 f2
  generalize (w4.setCell ⟨w.heap.size, 3, none⟩ (.slice a4 (d.queue.eraseIdx kn).length cap4)) = w6 at *
  have v0 := cell_blk S5.out.hx 0 _ (wrC_0 x)
  have v1 := cell_blk S5.out.hx 1 _ (wrC_1 x)
  go_wp2_with (first
      | (refine wpList_alloc_Z rfl 60 rfl _ (akZ _) ?_)
      | (refine wpList_store_bign (cs := akC x 0) bigAk rfl _ _ rfl w6.heap.size (by simp) rfl rfl rfl rfl (ak1 x 0) ?_; have S6 := Lib.hid (S5.out.ack (A := w6.heap.size) rfl); unfold akC))
  generalize w6.alloc (.cells #[.int .i64 x.ep, .int .i64 x.seq, .int .i64 0] 60) = w8 at *
  clear v0 v1 S5
  go_loopw [11, 12, 13] (fun v p i wr => ∃ (k : Nat) (a1 : Option Addr) (n cap1 : Nat) (O : Option Nat) (l : List Int) (b : Bool), k ≤ d.done.length ∧ i = .int .i64 k ∧ v = .slice a1 n cap1 ∧ p = .bool b ∧ l.length = n ∧ Hid ((d.done.take k).foldl (stepN x.seq) ([], false) = (l, b)) ∧ Hid (OwnS wr O 3 1 EInt (.slice a1 n cap1) l) ∧ Hid (NewO w8 none O) ∧ Hid (Kept NoM w8 wr)) (fun _ _ i _ => d.done.length - (intOf i).toNat)
  case atStart => exact ⟨0, none, 0, 0, none, [], false, Nat.zero_le _, rfl, rfl, rfl, rfl, Lib.hid rfl, Lib.hid (OwnS.nil _ _ _ _), Lib.hid (NewO.refl _ _), Lib.hid (Kept.refl _ _)⟩
  case round =>
    obtain ⟨k, a1, n, cap1, O, l, b, hk, rfl, rfl, rfl, hn, hF, hO, hN, hK⟩ := hrel
    have hn2 : n ≤ 2 * d.done.length := by
      have := foldN_len x.seq (d.done.take k) ([], false)
      rw [hF.out, List.length_take] at this
      simp only [List.length_nil, Nat.zero_add] at this
      have h2 : min k d.done.length ≤ d.done.length := Nat.min_le_right _ _
      omega
    have SK := Lib.hid (S6.out.kept hK.out)
    by_cases hlt : k < d.done.length
    · have hki : (k : Int) < d.done.length := by omega
      obtain ⟨y, hy⟩ := getAt hlt
      have HY := Lib.hid hy
      obtain ⟨b0, off, e1, _⟩ := SK.out.rd.rd.at hy
      subst e1
      have HS := Lib.hid ((foldN_succ hy ([], false)).trans (by rw [hF.out]))
      clear hy
      have x1 := cell_blk SK.out.hx 1 _ (wrC_1 x)
      have s4 := cell_blk SK.out.hd 4 _ dv4
      have r0 := intAt SK.out.rd.rd HY.out
      by_cases hg : x.seq < y
      · have g1 := decide_eq_true hg
        cases b with
        | true =>
          have HS2 : Hid ((d.done.take (k + 1)).foldl (stepN x.seq) ([], false) = (l ++ [y], true)) := Lib.hid (HS.out.trans (by unfold stepN; simp only []; simp))
          clear hg HS
          go_wp2_with fail
          go_quiet (fail)
          generalize hWD : World.drewN wr _ = wd1
          have KD1 := Lib.hid (show Kept NoM wr wd1 from hWD ▸ (Kept.refl NoM wr).drewN _)
          clear hWD
          have S1x := Lib.hid (SK.out.kept KD1.out)
          have R1 := Lib.hid (hK.out.trans KD1.out)
          have Q1 := Lib.hid (hO.out.kept KD1.out (fun _ _ x => x) (fun _ _ x => x))
          have x11 := cell_blk S1x.out.hx 1 _ (wrC_1 x)
          have s41 := cell_blk S1x.out.hd 4 _ dv4
          have r01 := intAt S1x.out.rd.rd HY.out
          have HR2 := Lib.hid (rd_one (M := NoM) (sz := 1) (E := EInt) (x := y) (blk_new wd1 (.cells #[.int .i64 y] 3)) (fun x => x) rfl rfl)
          have KI2 := Lib.hid ((Kept.refl NoM wd1).alloc (.cells #[.int .i64 y] 3))
          have OA2 := Lib.hid (Q1.out.kept KI2.out (fun _ _ x => x) (fun _ _ x => x))
          go_wp2_with (first | (at_builtin; refine wpList_append_S (M := NoM) rfl (.tmp 95) (.tmp 101) 25 rfl 8 tyInts _ rfl OA2.out _ rfl HR2.out eInt_one (n) 1 hn rfl (by unfold maxLen; omega) (by omega) ?_; intro a2x cap2x w2x O2 hown hkk hnn; have OW2 := Lib.hid hown; have KA2 : Hid (Kept (fun k => some k = O) wd1 w2x) := Lib.hid (KI2.out.of_no.trans hkk); have R2 : Hid (Kept NoM w8 w2x) := Lib.hid (R1.out.trans' KA2.out (fun i hi e => newO_no hN.out i hi e)); have N2 : Hid (NewO w8 none O2) := Lib.hid (hN.out.trans hnn (Nat.le_trans R1.out.size KI2.out.size)); have S2x := Lib.hid (S6.out.kept R2.out); have hn2 : (l ++ [y]).length = n + 1 := (by rw [List.length_append, hn]; rfl); have x12 := cell_blk S2x.out.hx 1 _ (wrC_1 x); have s42 := cell_blk S2x.out.hd 4 _ dv4; have r02 := intAt S2x.out.rd.rd HY.out; clear hown hkk hnn))
          go_roundw
          case rel => exact ⟨k + 1, a2x, n + 1, cap2x, O2, l ++ [y], true, by omega, by go_num, rfl, rfl, hn2, HS2, OW2, N2, R2⟩
          case measure => simp [intOf]; omega
        | false =>
          have HS2 : Hid ((d.done.take (k + 1)).foldl (stepN x.seq) ([], false) = (l ++ [x.seq] ++ [y], true)) := Lib.hid (HS.out.trans (by unfold stepN; simp only []; simp [hg]))
          clear hg HS
          go_wp2_with fail
          go_quiet (fail)
          generalize hWD : World.drewN wr _ = wd1
          have KD1 := Lib.hid (show Kept NoM wr wd1 from hWD ▸ (Kept.refl NoM wr).drewN _)
          clear hWD
          have S1x := Lib.hid (SK.out.kept KD1.out)
          have R1 := Lib.hid (hK.out.trans KD1.out)
          have Q1 := Lib.hid (hO.out.kept KD1.out (fun _ _ x => x) (fun _ _ x => x))
          have x11 := cell_blk S1x.out.hx 1 _ (wrC_1 x)
          have s41 := cell_blk S1x.out.hd 4 _ dv4
          have r01 := intAt S1x.out.rd.rd HY.out
          have HR2 := Lib.hid (rd_one (M := NoM) (sz := 1) (E := EInt) (x := x.seq) (blk_new wd1 (.cells #[.int .i64 x.seq] 3)) (fun x => x) rfl rfl)
          have KI2 := Lib.hid ((Kept.refl NoM wd1).alloc (.cells #[.int .i64 x.seq] 3))
          have OA2 := Lib.hid (Q1.out.kept KI2.out (fun _ _ x => x) (fun _ _ x => x))
          go_wp2_with (first | (at_builtin; refine wpList_append_S (M := NoM) rfl (.tmp 90) (.tmp 93) 25 rfl 8 tyInts _ rfl OA2.out _ rfl HR2.out eInt_one (n) 1 hn rfl (by unfold maxLen; omega) (by omega) ?_; intro a2x cap2x w2x O2 hown hkk hnn; have OW2 := Lib.hid hown; have KA2 : Hid (Kept (fun k => some k = O) wd1 w2x) := Lib.hid (KI2.out.of_no.trans hkk); have R2 : Hid (Kept NoM w8 w2x) := Lib.hid (R1.out.trans' KA2.out (fun i hi e => newO_no hN.out i hi e)); have N2 : Hid (NewO w8 none O2) := Lib.hid (hN.out.trans hnn (Nat.le_trans R1.out.size KI2.out.size)); have S2x := Lib.hid (S6.out.kept R2.out); have hn2 : (l ++ [x.seq]).length = n + 1 := (by rw [List.length_append, hn]; rfl); have x12 := cell_blk S2x.out.hx 1 _ (wrC_1 x); have s42 := cell_blk S2x.out.hd 4 _ dv4; have r02 := intAt S2x.out.rd.rd HY.out; have HR3 := Lib.hid (rd_one (M := NoM) (sz := 1) (E := EInt) (x := y) (blk_new w2x (.cells #[.int .i64 y] 3)) (fun x => x) rfl rfl); have KI3 := Lib.hid ((Kept.refl NoM w2x).alloc (.cells #[.int .i64 y] 3)); have OA3 := Lib.hid (OW2.out.kept KI3.out (fun _ _ x => x) (fun _ _ x => x)); clear hown hkk hnn) | (at_builtin; refine wpList_append_S (M := NoM) rfl (.tmp 95) (.tmp 101) 25 rfl 8 tyInts _ rfl OA3.out _ rfl HR3.out eInt_one (n + 1) 1 hn2 rfl (by unfold maxLen; omega) (by omega) ?_; intro a3x cap3x w3x O3 hown hkk hnn; have OW3 := Lib.hid hown; have KA3 : Hid (Kept (fun k => some k = O2) w2x w3x) := Lib.hid (KI3.out.of_no.trans hkk); have R3 : Hid (Kept NoM w8 w3x) := Lib.hid (R2.out.trans' KA3.out (fun i hi e => newO_no N2.out i hi e)); have N3 : Hid (NewO w8 none O3) := Lib.hid (N2.out.trans hnn (Nat.le_trans R2.out.size KI3.out.size)); have S3x := Lib.hid (S6.out.kept R3.out); have hn3 : (l ++ [x.seq] ++ [y]).length = n + 1 + 1 := (by rw [List.length_append, hn2]; rfl); have x13 := cell_blk S3x.out.hx 1 _ (wrC_1 x); have s43 := cell_blk S3x.out.hd 4 _ dv4; have r03 := intAt S3x.out.rd.rd HY.out; clear hown hkk hnn))
          go_roundw
          case rel => exact ⟨k + 1, a3x, n + 1 + 1, cap3x, O3, l ++ [x.seq] ++ [y], true, by omega, by go_num, rfl, rfl, hn3, HS2, OW3, N3, R3⟩
          case measure => simp [intOf]; omega
      · have g1 := decide_eq_false hg
        have HS2 : Hid ((d.done.take (k + 1)).foldl (stepN x.seq) ([], false) = (l ++ [y], b)) := Lib.hid (HS.out.trans (by unfold stepN; simp only []; simp [hg]))
        clear hg HS
        go_wp2_with fail
        go_quiet (fail)
        generalize hWD : World.drewN wr _ = wd1
        have KD1 := Lib.hid (show Kept NoM wr wd1 from hWD ▸ (Kept.refl NoM wr).drewN _)
        clear hWD
        have S1x := Lib.hid (SK.out.kept KD1.out)
        have R1 := Lib.hid (hK.out.trans KD1.out)
        have Q1 := Lib.hid (hO.out.kept KD1.out (fun _ _ x => x) (fun _ _ x => x))
        have x11 := cell_blk S1x.out.hx 1 _ (wrC_1 x)
        have s41 := cell_blk S1x.out.hd 4 _ dv4
        have r01 := intAt S1x.out.rd.rd HY.out
        have HR2 := Lib.hid (rd_one (M := NoM) (sz := 1) (E := EInt) (x := y) (blk_new wd1 (.cells #[.int .i64 y] 3)) (fun x => x) rfl rfl)
        have KI2 := Lib.hid ((Kept.refl NoM wd1).alloc (.cells #[.int .i64 y] 3))
        have OA2 := Lib.hid (Q1.out.kept KI2.out (fun _ _ x => x) (fun _ _ x => x))
        go_wp2_with (first | (at_builtin; refine wpList_append_S (M := NoM) rfl (.tmp 95) (.tmp 101) 25 rfl 8 tyInts _ rfl OA2.out _ rfl HR2.out eInt_one (n) 1 hn rfl (by unfold maxLen; omega) (by omega) ?_; intro a2x cap2x w2x O2 hown hkk hnn; have OW2 := Lib.hid hown; have KA2 : Hid (Kept (fun k => some k = O) wd1 w2x) := Lib.hid (KI2.out.of_no.trans hkk); have R2 : Hid (Kept NoM w8 w2x) := Lib.hid (R1.out.trans' KA2.out (fun i hi e => newO_no hN.out i hi e)); have N2 : Hid (NewO w8 none O2) := Lib.hid (hN.out.trans hnn (Nat.le_trans R1.out.size KI2.out.size)); have S2x := Lib.hid (S6.out.kept R2.out); have hn2 : (l ++ [y]).length = n + 1 := (by rw [List.length_append, hn]; rfl); have x12 := cell_blk S2x.out.hx 1 _ (wrC_1 x); have s42 := cell_blk S2x.out.hd 4 _ dv4; have r02 := intAt S2x.out.rd.rd HY.out; clear hown hkk hnn))
        go_roundw
        case rel => exact ⟨k + 1, a2x, n + 1, cap2x, O2, l ++ [y], b, by omega, by go_num, rfl, rfl, hn2, HS2, OW2, N2, R2⟩
        case measure => simp [intOf]; omega
    · obtain rfl : k = d.done.length := by omega
      have g1 := decide_eq_false (show ¬ ((d.done.length : Nat) : Int) < d.done.length by omega)
      have g2 := decide_eq_false (show ¬ d.done.length < d.done.length by omega)
      have HL : Hid (endN x.seq (l, b) = insI x.seq d.done) := Lib.hid (by have h9 := stepN_ins (n := x.seq) d.done []; rw [List.nil_append] at h9; rw [← h9, ← hF.out, List.take_length])
      have x1 := cell_blk SK.out.hx 1 _ (wrC_1 x)
      have s4 := cell_blk SK.out.hd 4 _ dv4
      have o4 := free_blk SK.out.hd 4
      cases b with
      | true =>
        have HL2 : Hid (l = insI x.seq d.done) := Lib.hid (by have := HL.out; unfold endN at this; simpa using this)
        have HIN : (insI x.seq d.done).length = n := HL2.out ▸ hn
        have QR : Hid (RdS wr (BX M w.heap.size (w.heap.size + 1) w1.heap.size w6.heap.size) 1 EInt (.slice a1 (n) cap1) (insI x.seq d.done)) := Lib.hid (HL2.out ▸ S6.out.rdn HM.out hO.out (newO_le hN.out))
        have S11 : Hid (BxSt w M x w.heap.size (w.heap.size + 1) w1.heap.size w6.heap.size (wr.setCell ⟨w.heap.size, 4, none⟩ (.slice a1 (n) cap1)) ({ d with queue := d.queue.eraseIdx kn, done := insI x.seq d.done } : Dev) 0 ta a4 a1 la tc cap4 cap1 lc) := Lib.hid (SK.out.set 4 _ (by simp [devC, HIN]) ⟨SK.out.rd.rt, SK.out.rd.rq, RdS.len HIN.symm QR.out, SK.out.rd.rl⟩)
        clear HIN
        go_wp2_with (first
              | (refine wpList_load_big bigDev rfl _ rfl w.heap.size 0 (devC ({ d with queue := d.queue.eraseIdx kn, done := insI x.seq d.done } : Dev) ta tc a4 cap4 a1 cap1 la lc) rfl (range_blk (by first | exact S12.out.hd | exact S11.out.hd)) rfl ?_)
              | (refine wpList_load_big bigWr rfl _ rfl w1.heap.size 0 (wrC x) rfl (range_blk S11.out.hx) rfl ?_)
              | (go_at_call 59; refine (rearly_ok ({ d with queue := d.queue.eraseIdx kn, done := insI x.seq d.done } : Dev) x ta a4 a1 la tc cap4 cap1 lc _).mono ?_; rw [HE.out]; rintro e w12 ⟨rfl, k4⟩; have S12 := Lib.hid (S11.out.kept k4); clear k4))
        refine wp_region_par 4 [] [] [] [] [] (fun wx => CF w12 (w.heap.size + 1) wx)
              [fun v _ => v = .agg (devC ({ d with queue := d.queue.eraseIdx kn, done := insI x.seq d.done } : Dev) ta tc a4 cap4 a1 cap1 la lc), fun v _ => v = .agg (akC x 0), fun v wx => ∃ b, (v = .slice (some ⟨b, 0, none⟩) 1 1 ∧ w12.heap.size ≤ b) ∧ wx.heap[b]? = some (.cells (akC x 0) 60 (0, 0)), fun _ wx => wx.heap[w.heap.size + 1]? = some (.cells (devC ({ d with queue := d.queue.eraseIdx kn, done := insI x.seq d.done } : Dev) ta tc a4 cap4 a1 cap1 la lc) 27 (0, 0))] (by kernel_rfl) (by kernel_rfl) (by kernel_rfl) (CF.refl rfl S12.out.hz).drew (inits_nil) ?_ ?_
        · intro i hi9
          have hst := stab_all (posts := [fun v _ => v = .agg (devC ({ d with queue := d.queue.eraseIdx kn, done := insI x.seq d.done } : Dev) ta tc a4 cap4 a1 cap1 la lc), fun v _ => v = .agg (akC x 0), fun v wx => ∃ b, (v = .slice (some ⟨b, 0, none⟩) 1 1 ∧ w12.heap.size ≤ b) ∧ wx.heap[b]? = some (.cells (akC x 0) 60 (0, 0)), fun _ wx => wx.heap[w.heap.size + 1]? = some (.cells (devC ({ d with queue := d.queue.eraseIdx kn, done := insI x.seq d.done } : Dev) ta tc a4 cap4 a1 cap1 la lc) 27 (0, 0))])        (stab_cons (stab_const _) (stab_cons (stab_const _) (stab_cons (stab_blk (fun b v => v = .slice (some ⟨b, 0, none⟩) 1 1 ∧ w12.heap.size ≤ b) (fun b => b) (fun b => .cells (akC x 0) 60 (0, 0))) (stab_cons (fun _ _ _ k h => k.blk h (fun x => x)) stab_nil))))
          have hist := init_stab (inits := []) (fun p h => by cases h)
          have HST := Lib.hid hst
          have HIST := Lib.hid hist
          clear hst hist
          rcases (show i = 0 ∨ i = 1 ∨ i = 2 ∨ i = 3 by omega) with rfl | rfl | rfl | rfl
          · refine asks_intro ?_; intro o ho a wx hc hout hp hi R hR; cases ho
            have e2 : a.tmps[2]? = some (.pointer (some ⟨w.heap.size, 0, none⟩)) := hout 2 rfl
            refine gives_load_big bigDev (.tmp 2) rfl w.heap.size 0 (devC ({ d with queue := d.queue.eraseIdx kn, done := insI x.seq d.done } : Dev) ta tc a4 cap4 a1 cap1 la lc) (by go_simp) (range_blk (hc.blk S12.out.hd (by have h := S12.out.ne; omega))) rfl ?_
            exact hR _ _ hc rfl (fun _ _ _ _ _ u h => h) (fun _ _ h => h)
          · refine asks_intro ?_; intro o ho a wx hc hout hp hi R hR; cases ho
            have e10 : a.tmps[10]? = some (.pointer (some ⟨w6.heap.size, 0, none⟩)) := hout 10 rfl
            refine gives_load_big bigAk (.tmp 10) rfl w6.heap.size 0 (akC x 0) (by go_simp) (range_blk (hc.blk S12.out.ha (by have h := S12.out.ne; omega))) rfl ?_
            exact hR _ _ hc rfl (fun _ _ _ _ _ u h => h) (fun _ _ h => h)
          · refine asks_intro ?_; intro o ho a wx hc hout hp hi R hR; cases ho
            have e118 : a.tmps[118]?.getD undef = .agg (akC x 0) := hp 1 (by omega) rfl
            go_simp
            exact hR _ _ (hc.alloc _) ⟨_, ⟨rfl, hc.1.size⟩, blk_new _ _⟩ (fun j _ _ _ _ u h => HST.out j u _ _ ((Kept.refl _ _).alloc _) h) (fun j _ h => HIST.out j _ _ ((Kept.refl _ _).alloc _) h)
          · refine asks_intro ?_; intro o ho a wx hc hout hp hi R hR; cases ho
            have e117 : a.tmps[117]?.getD undef = .agg (devC ({ d with queue := d.queue.eraseIdx kn, done := insI x.seq d.done } : Dev) ta tc a4 cap4 a1 cap1 la lc) := hp 0 (by omega) rfl
            have e4 : a.tmps[4]? = some (.pointer (some ⟨w.heap.size + 1, 0, none⟩)) := hout 4 rfl
            obtain ⟨hck, z9, hz7, hz9⟩ := hc
            refine gives_store_bigb (cs := devC ({ d with queue := d.queue.eraseIdx kn, done := insI x.seq d.done } : Dev) ta tc a4 cap4 a1 cap1 la lc) bigDev (.tmp 4) (.tmp 117) rfl (w.heap.size + 1) (by go_simp) (by go_simp) hz9 hz7 rfl (dev1 _ _ _ _ _ _ _ _ _) ?_
            refine hR _ _ (CF.put ⟨hck, z9, hz7, hz9⟩ _ rfl) (putB_blk _ _ _ _ (lt_of_block hz9)) (fun j hj hne hcn hwf u h => ?_) (fun q hq h => ?_)
            · rcases (show j = 0 ∨ j = 1 ∨ j = 2 ∨ j = 3 by omega) with rfl | rfl | rfl | rfl <;> first | exact h | exact absurd hcn (by decide) | exact absurd rfl hne | (obtain ⟨b, ⟨q1, q2⟩, q3⟩ := h; have q2 : w12.heap.size ≤ b := q2; have hz9 := S12.out.bxlt HM.out _ (.inr (.inr (.inl rfl))); exact ⟨b, ⟨q1, q2⟩, (putB_blk_ne _ _ _ _ _ (by omega)).trans q3⟩)
            · trivial
        · intro vs w' hc hp
          have e117 : vs 0 = .agg (devC ({ d with queue := d.queue.eraseIdx kn, done := insI x.seq d.done } : Dev) ta tc a4 cap4 a1 cap1 la lc) := hp 0 (by omega) rfl
          have e118 : vs 1 = .agg (akC x 0) := hp 1 (by omega) rfl
          obtain ⟨b, e119, hb119⟩ : ∃ b, (vs 2 = .slice (some ⟨b, 0, none⟩) 1 1 ∧ w12.heap.size ≤ b) ∧ w'.heap[b]? = some (.cells (akC x 0) 60 (0, 0)) := hp 2 (by omega) rfl
          obtain ⟨_, hbg3⟩ : ∃ _ : Value, w'.heap[w.heap.size + 1]? = some (.cells (devC ({ d with queue := d.queue.eraseIdx kn, done := insI x.seq d.done } : Dev) ta tc a4 cap4 a1 cap1 la lc) 27 (0, 0)) := hp 3 (by omega) rfl
          simp only [List.take_succ_cons, List.take_zero, List.drop_succ_cons, List.drop_zero, putAll, Act.put, List.setIfInBounds_toArray, List.set_cons_zero, List.set_cons_succ, Nat.reduceAdd, e117, e118]
          obtain ⟨e119, hsb⟩ := e119
          rw [e119]
          change wpList _ _ _ _ _ _
          have HB4 := Lib.hid hbg3
          have HAK := Lib.hid hb119
          have HC9 := Lib.hid hc
          clear hbg3 hb119 hc hp
          go_wp2_with fail
          have hl0 : _root_.Go.World.cell? _ ⟨w.heap.size + 1, 0, none⟩ = _ := cell_blk HB4.out 0 _ dv0
          have hl1 : _root_.Go.World.cell? _ ⟨w.heap.size + 1, 1, none⟩ = _ := cell_blk HB4.out 1 _ dv1
          have hl2 : _root_.Go.World.cell? _ ⟨w.heap.size + 1, 2, none⟩ = _ := cell_blk HB4.out 2 _ dv2
          have hl3 : _root_.Go.World.cell? _ ⟨w.heap.size + 1, 3, none⟩ = _ := cell_blk HB4.out 3 _ dv3
          have hl4 : _root_.Go.World.cell? _ ⟨w.heap.size + 1, 4, none⟩ = _ := cell_blk HB4.out 4 _ dv4
          have hl5 : _root_.Go.World.cell? _ ⟨w.heap.size + 1, 5, none⟩ = _ := cell_blk HB4.out 5 _ dv5
          have hl6 : _root_.Go.World.cell? _ ⟨w.heap.size + 1, 6, none⟩ = _ := cell_blk HB4.out 6 _ dv6
          refine bodyPost_ret (v := .tuple #[.agg (devC ({ d with queue := d.queue.eraseIdx kn, done := insI x.seq d.done } : Dev) ta tc a4 cap4 a1 cap1 la lc), .slice (some ⟨b, 0, none⟩) 1 1, .int .i64 0]) (by simp [results, Try.results19, go_sem, devC, devZC, dev0, hl0, hl1, hl2, hl3, hl4, hl5, hl6]) rfl ?_
          have FD := S12.out.dev HC9.out.1
          exact ⟨_, _, rfl, FD.1, acks_one (a := ⟨x.ep, x.seq, 0⟩) HAK.out HM.out (by have := S12.out.kp.size; omega), FD.2⟩
      | false =>
        have HL2 : Hid (l ++ [x.seq] = insI x.seq d.done) := Lib.hid (by have := HL.out; unfold endN at this; simpa using this)
        have HR1 := Lib.hid (rd_one (M := NoM) (sz := 1) (E := EInt) (x := x.seq) (blk_new wr (.cells #[.int .i64 x.seq] 3)) (fun x => x) rfl rfl)
        have KI1 := Lib.hid ((Kept.refl NoM wr).alloc (.cells #[.int .i64 x.seq] 3))
        have OA1 := Lib.hid (hO.out.kept KI1.out (fun _ _ x => x) (fun _ _ x => x))
        go_wp2_with (first | (at_builtin; refine wpList_append_S (M := NoM) rfl (.tmp 105) (.tmp 108) 25 rfl 8 tyInts _ rfl OA1.out _ rfl HR1.out eInt_one (n) 1 hn rfl (by unfold maxLen; omega) (by omega) ?_; intro a1x cap1x w1x O1 hown hkk hnn; have OW1 := Lib.hid hown; have KA1 : Hid (Kept (fun k => some k = O) wr w1x) := Lib.hid (KI1.out.of_no.trans hkk); have R1 : Hid (Kept NoM w8 w1x) := Lib.hid (hK.out.trans' KA1.out (fun i hi e => newO_no hN.out i hi e)); have N1 : Hid (NewO w8 none O1) := Lib.hid (hN.out.trans hnn (Nat.le_trans hK.out.size KI1.out.size)); have S1x := Lib.hid (S6.out.kept R1.out); have hn1 : (l ++ [x.seq]).length = n + 1 := (by rw [List.length_append, hn]; rfl); have x11 := cell_blk S1x.out.hx 1 _ (wrC_1 x); have s41 := cell_blk S1x.out.hd 4 _ dv4; have o41 := free_blk S1x.out.hd 4; have HIN : (insI x.seq d.done).length = n + 1 := HL2.out ▸ hn1; have QR : Hid (RdS w1x (BX M w.heap.size (w.heap.size + 1) w1.heap.size w6.heap.size) 1 EInt (.slice a1x (n + 1) cap1x) (insI x.seq d.done)) := Lib.hid (HL2.out ▸ S6.out.rdn HM.out OW1.out (newO_le N1.out)); have S11 : Hid (BxSt w M x w.heap.size (w.heap.size + 1) w1.heap.size w6.heap.size (w1x.setCell ⟨w.heap.size, 4, none⟩ (.slice a1x (n + 1) cap1x)) ({ d with queue := d.queue.eraseIdx kn, done := insI x.seq d.done } : Dev) 0 ta a4 a1x la tc cap4 cap1x lc) := Lib.hid (S1x.out.set 4 _ (by simp [devC, HIN]) ⟨S1x.out.rd.rt, S1x.out.rd.rq, RdS.len HIN.symm QR.out, S1x.out.rd.rl⟩); clear HIN; clear hown hkk hnn) | (refine wpList_load_big bigDev rfl _ rfl w.heap.size 0 (devC ({ d with queue := d.queue.eraseIdx kn, done := insI x.seq d.done } : Dev) ta tc a4 cap4 a1x cap1x la lc) rfl (range_blk (by first | exact S12.out.hd | exact S11.out.hd)) rfl ?_) | (refine wpList_load_big bigWr rfl _ rfl w1.heap.size 0 (wrC x) rfl (range_blk S11.out.hx) rfl ?_) | (go_at_call 59; refine (rearly_ok ({ d with queue := d.queue.eraseIdx kn, done := insI x.seq d.done } : Dev) x ta a4 a1x la tc cap4 cap1x lc _).mono ?_; rw [HE.out]; rintro e w12 ⟨rfl, k4⟩; have S12 := Lib.hid (S11.out.kept k4); clear k4))
        refine wp_region_par 4 [] [] [] [] [] (fun wx => CF w12 (w.heap.size + 1) wx)
              [fun v _ => v = .agg (devC ({ d with queue := d.queue.eraseIdx kn, done := insI x.seq d.done } : Dev) ta tc a4 cap4 a1x cap1x la lc), fun v _ => v = .agg (akC x 0), fun v wx => ∃ b, (v = .slice (some ⟨b, 0, none⟩) 1 1 ∧ w12.heap.size ≤ b) ∧ wx.heap[b]? = some (.cells (akC x 0) 60 (0, 0)), fun _ wx => wx.heap[w.heap.size + 1]? = some (.cells (devC ({ d with queue := d.queue.eraseIdx kn, done := insI x.seq d.done } : Dev) ta tc a4 cap4 a1x cap1x la lc) 27 (0, 0))] (by kernel_rfl) (by kernel_rfl) (by kernel_rfl) (CF.refl rfl S12.out.hz).drew (inits_nil) ?_ ?_
        · intro i hi9
          have hst := stab_all (posts := [fun v _ => v = .agg (devC ({ d with queue := d.queue.eraseIdx kn, done := insI x.seq d.done } : Dev) ta tc a4 cap4 a1x cap1x la lc), fun v _ => v = .agg (akC x 0), fun v wx => ∃ b, (v = .slice (some ⟨b, 0, none⟩) 1 1 ∧ w12.heap.size ≤ b) ∧ wx.heap[b]? = some (.cells (akC x 0) 60 (0, 0)), fun _ wx => wx.heap[w.heap.size + 1]? = some (.cells (devC ({ d with queue := d.queue.eraseIdx kn, done := insI x.seq d.done } : Dev) ta tc a4 cap4 a1x cap1x la lc) 27 (0, 0))])        (stab_cons (stab_const _) (stab_cons (stab_const _) (stab_cons (stab_blk (fun b v => v = .slice (some ⟨b, 0, none⟩) 1 1 ∧ w12.heap.size ≤ b) (fun b => b) (fun b => .cells (akC x 0) 60 (0, 0))) (stab_cons (fun _ _ _ k h => k.blk h (fun x => x)) stab_nil))))
          have hist := init_stab (inits := []) (fun p h => by cases h)
          have HST := Lib.hid hst
          have HIST := Lib.hid hist
          clear hst hist
          rcases (show i = 0 ∨ i = 1 ∨ i = 2 ∨ i = 3 by omega) with rfl | rfl | rfl | rfl
          · refine asks_intro ?_; intro o ho a wx hc hout hp hi R hR; cases ho
            have e2 : a.tmps[2]? = some (.pointer (some ⟨w.heap.size, 0, none⟩)) := hout 2 rfl
            refine gives_load_big bigDev (.tmp 2) rfl w.heap.size 0 (devC ({ d with queue := d.queue.eraseIdx kn, done := insI x.seq d.done } : Dev) ta tc a4 cap4 a1x cap1x la lc) (by go_simp) (range_blk (hc.blk S12.out.hd (by have h := S12.out.ne; omega))) rfl ?_
            exact hR _ _ hc rfl (fun _ _ _ _ _ u h => h) (fun _ _ h => h)
          · refine asks_intro ?_; intro o ho a wx hc hout hp hi R hR; cases ho
            have e10 : a.tmps[10]? = some (.pointer (some ⟨w6.heap.size, 0, none⟩)) := hout 10 rfl
            refine gives_load_big bigAk (.tmp 10) rfl w6.heap.size 0 (akC x 0) (by go_simp) (range_blk (hc.blk S12.out.ha (by have h := S12.out.ne; omega))) rfl ?_
            exact hR _ _ hc rfl (fun _ _ _ _ _ u h => h) (fun _ _ h => h)
          · refine asks_intro ?_; intro o ho a wx hc hout hp hi R hR; cases ho
            have e118 : a.tmps[118]?.getD undef = .agg (akC x 0) := hp 1 (by omega) rfl
            go_simp
            exact hR _ _ (hc.alloc _) ⟨_, ⟨rfl, hc.1.size⟩, blk_new _ _⟩ (fun j _ _ _ _ u h => HST.out j u _ _ ((Kept.refl _ _).alloc _) h) (fun j _ h => HIST.out j _ _ ((Kept.refl _ _).alloc _) h)
          · refine asks_intro ?_; intro o ho a wx hc hout hp hi R hR; cases ho
            have e117 : a.tmps[117]?.getD undef = .agg (devC ({ d with queue := d.queue.eraseIdx kn, done := insI x.seq d.done } : Dev) ta tc a4 cap4 a1x cap1x la lc) := hp 0 (by omega) rfl
            have e4 : a.tmps[4]? = some (.pointer (some ⟨w.heap.size + 1, 0, none⟩)) := hout 4 rfl
            obtain ⟨hck, z9, hz7, hz9⟩ := hc
            refine gives_store_bigb (cs := devC ({ d with queue := d.queue.eraseIdx kn, done := insI x.seq d.done } : Dev) ta tc a4 cap4 a1x cap1x la lc) bigDev (.tmp 4) (.tmp 117) rfl (w.heap.size + 1) (by go_simp) (by go_simp) hz9 hz7 rfl (dev1 _ _ _ _ _ _ _ _ _) ?_
            refine hR _ _ (CF.put ⟨hck, z9, hz7, hz9⟩ _ rfl) (putB_blk _ _ _ _ (lt_of_block hz9)) (fun j hj hne hcn hwf u h => ?_) (fun q hq h => ?_)
            · rcases (show j = 0 ∨ j = 1 ∨ j = 2 ∨ j = 3 by omega) with rfl | rfl | rfl | rfl <;> first | exact h | exact absurd hcn (by decide) | exact absurd rfl hne | (obtain ⟨b, ⟨q1, q2⟩, q3⟩ := h; have q2 : w12.heap.size ≤ b := q2; have hz9 := S12.out.bxlt HM.out _ (.inr (.inr (.inl rfl))); exact ⟨b, ⟨q1, q2⟩, (putB_blk_ne _ _ _ _ _ (by omega)).trans q3⟩)
            · trivial
        · intro vs w' hc hp
          have e117 : vs 0 = .agg (devC ({ d with queue := d.queue.eraseIdx kn, done := insI x.seq d.done } : Dev) ta tc a4 cap4 a1x cap1x la lc) := hp 0 (by omega) rfl
          have e118 : vs 1 = .agg (akC x 0) := hp 1 (by omega) rfl
          obtain ⟨b, e119, hb119⟩ : ∃ b, (vs 2 = .slice (some ⟨b, 0, none⟩) 1 1 ∧ w12.heap.size ≤ b) ∧ w'.heap[b]? = some (.cells (akC x 0) 60 (0, 0)) := hp 2 (by omega) rfl
          obtain ⟨_, hbg3⟩ : ∃ _ : Value, w'.heap[w.heap.size + 1]? = some (.cells (devC ({ d with queue := d.queue.eraseIdx kn, done := insI x.seq d.done } : Dev) ta tc a4 cap4 a1x cap1x la lc) 27 (0, 0)) := hp 3 (by omega) rfl
          simp only [List.take_succ_cons, List.take_zero, List.drop_succ_cons, List.drop_zero, putAll, Act.put, List.setIfInBounds_toArray, List.set_cons_zero, List.set_cons_succ, Nat.reduceAdd, e117, e118]
          obtain ⟨e119, hsb⟩ := e119
          rw [e119]
          change wpList _ _ _ _ _ _
          have HB4 := Lib.hid hbg3
          have HAK := Lib.hid hb119
          have HC9 := Lib.hid hc
          clear hbg3 hb119 hc hp
          go_wp2_with fail
          have hl0 : _root_.Go.World.cell? _ ⟨w.heap.size + 1, 0, none⟩ = _ := cell_blk HB4.out 0 _ dv0
          have hl1 : _root_.Go.World.cell? _ ⟨w.heap.size + 1, 1, none⟩ = _ := cell_blk HB4.out 1 _ dv1
          have hl2 : _root_.Go.World.cell? _ ⟨w.heap.size + 1, 2, none⟩ = _ := cell_blk HB4.out 2 _ dv2
          have hl3 : _root_.Go.World.cell? _ ⟨w.heap.size + 1, 3, none⟩ = _ := cell_blk HB4.out 3 _ dv3
          have hl4 : _root_.Go.World.cell? _ ⟨w.heap.size + 1, 4, none⟩ = _ := cell_blk HB4.out 4 _ dv4
          have hl5 : _root_.Go.World.cell? _ ⟨w.heap.size + 1, 5, none⟩ = _ := cell_blk HB4.out 5 _ dv5
          have hl6 : _root_.Go.World.cell? _ ⟨w.heap.size + 1, 6, none⟩ = _ := cell_blk HB4.out 6 _ dv6
          refine bodyPost_ret (v := .tuple #[.agg (devC ({ d with queue := d.queue.eraseIdx kn, done := insI x.seq d.done } : Dev) ta tc a4 cap4 a1x cap1x la lc), .slice (some ⟨b, 0, none⟩) 1 1, .int .i64 0]) (by simp [results, Try.results19, go_sem, devC, devZC, dev0, hl0, hl1, hl2, hl3, hl4, hl5, hl6]) rfl ?_
          have FD := S12.out.dev HC9.out.1
          exact ⟨_, _, rfl, FD.1, acks_one (a := ⟨x.ep, x.seq, 0⟩) HAK.out HM.out (by have := S12.out.kp.size; omega), FD.2⟩
end Go.Proofs.Ytghgegghlefclaa

/- Walks: Do of the specification. -/
namespace Go.Proofs.Ytghgegghlefclaa
open Go.RowKit
set_option maxHeartbeats 4000000
set_option maxRecDepth 8000
theorem rdo_p1 (d : Dev) (kn : Nat) (x : Wr) (ta qa da la : Option Addr) (tc qc dc lc : Nat) (M : Nat → Prop) (w : World) (h : DevR w M d ta tc qa qc da dc la lc) (hM : ∀ i, M i → i < w.heap.size) (hk : d.queue[kn]? = some x) (hr : rdyB d.queue kn = true)
    (hql : d.queue.length ≤ 1000) (htl : d.table.length ≤ 1000) (hdl : d.done.length ≤ 1000) (hll : d.lost.length ≤ 1000) (hdt : DecT d.table) (hlo : hasI d.lost x.seq = false) (hpk : putOk d.table d.room x = true) (he : earlyW d x = true) :
    Calls Try.prog 19 #[.agg (devC d ta tc qa qc da dc la lc), .int .i64 kn] w (DoPost M w ({ d with queue := d.queue.eraseIdx kn, table := (putT d.table d.room x), done := insI x.seq d.done }) ([])) := by
  obtain ⟨qb, qo, rfl, _, hc0⟩ := wr_at h.rq hk
  have hkl := (List.getElem?_eq_some_iff.1 hk).1
  have hki : (kn : Int) < d.queue.length := by omega
  have KB := Lib.hid (((Kept.refl NoM w).alloc (.cells (devC d ta tc (some ⟨qb, qo, none⟩) qc da dc la lc) 27)).alloc (.cells devZC 27))
  have B0 := Lib.hid (blk_old (blk_new w (.cells (devC d ta tc (some ⟨qb, qo, none⟩) qc da dc la lc) 27)) (.cells devZC 27))
  have B4 := Lib.hid (blk_new' (w.alloc (.cells (devC d ta tc (some ⟨qb, qo, none⟩) qc da dc la lc) 27)) (.cells devZC 27) (w.heap.size + 1) (by simp))
  have y3 := cell_blk B0.out 3 _ dv3
  have f0 := decide_eq_false (show ¬ (kn : Int) < 0 by omega)
  have f1 := decide_eq_false (show ¬ (d.queue.length : Int) ≤ (kn : Int) by omega)
  have f2 := decide_eq_false (show ¬ d.queue.length ≤ kn by omega)
  have RD := Lib.hid (rready1_ok d ta (some ⟨qb, qo, none⟩) da la tc qc dc lc M _ (h.rq.kept KB.out.of_no (fun _ _ x => x)) (by omega) kn hkl)
  rw [hr] at RD
  obtain ⟨ti, hti, htz⟩ := info_of (P := Try.prog) (e := 41) (n := 26) (by kernel_rfl)
  obtain ⟨sa, sc, hs1, hr1⟩ := RdS.slice (P := Try.prog) 24 41 ti Try.underlying24 hti htz h.rq 0 kn (Nat.zero_le _) (Nat.le_of_lt hkl) none (.inr ⟨rfl, rfl⟩)
  obtain ⟨sb, sd, hs2, hr2⟩ := RdS.sliceFrom (P := Try.prog) 24 41 ti Try.underlying24 hti htz h.rq (kn + 1) hkl
  have hs2 : ∀ wx, (Instr.slice 24 (.slice (some ⟨qb, qo, none⟩) d.queue.length qc) (some (.int .i64 ((kn : Int) + 1))) none none).run Try.prog wx = .ok (.slice sb (d.queue.length - (kn + 1)) sd) wx := hs2
  rw [Nat.sub_zero] at hr1
  simp only [Nat.sub_zero] at hs1
  rw [List.drop_zero] at hr1
  have HR1 := Lib.hid hr1
  have HR2 := Lib.hid hr2
  have HC0 := Lib.hid (rangeAt_kept (M := NoM) hc0 (Kept.refl _ _) (fun x => x))
  have HH := Lib.hid h
  have HM := Lib.hid hM
  have hw1 : IntKind.i64.wrap ((kn : Int) + 1) = (kn : Int) + 1 := IntWalk.i64_in _ (by omega)
  have HLE := Lib.hid (cut_len hkl)
  have HQL := Lib.hid (show d.queue.length ≤ 1000000 by omega)
  have HTK : Hid ((d.queue.take kn).length = kn) := Lib.hid (by rw [List.length_take]; omega)
  have HDP : Hid ((d.queue.drop (kn + 1)).length = d.queue.length - (kn + 1)) := Lib.hid (by rw [List.length_drop])
  have HDT := Lib.hid hdt
  clear h hM hc0 hr hr1 hr2 hdt
  have HLO := Lib.hid hlo
  have HPK := Lib.hid hpk
  have HE := Lib.hid (show earlyW ({ d with queue := d.queue.eraseIdx kn, table := (putT d.table d.room x), done := insI x.seq d.done } : Dev) x = true from he)
  clear hlo he hpk
  go_enter Try.func19, Try.ntmps19
  go_wp2_with (first
      | (refine wpList_alloc_Z rfl 27 rfl _ (devZ _) ?_)
      | (refine wpList_alloc_Z rfl 41 rfl _ (wrZ _) ?_)
      | (refine wpList_load_bigG bigDev (by rfl) _ rfl w.heap.size 0 (devC d ta tc (some ⟨qb, qo, none⟩) qc da dc la lc) rfl (range_blk B0.out) rfl ?_)
      | (refine wpList_load_big bigWr rfl _ rfl qb (qo + kn * 26) (wrC x) rfl HC1.out rfl ?_)
      | (go_at_call 60; refine RD.out.mono ?_; rintro e w1 ⟨rfl, k1⟩; have K1 := Lib.hid (KB.out.trans k1); have C0 := Lib.hid (k1.blk B0.out (fun x => x)); have C4 := Lib.hid (k1.blk B4.out (fun x => x)); have HC1 := Lib.hid (rangeAt_kept HC0.out K1.out (fun x => x)); have t3 := cell_blk C0.out 3 _ dv3; have hz1 := lt_of_block C4.out; clear k1 RD)
      | (refine wpList_store_bign bigWr rfl _ _ rfl _ rfl rfl rfl rfl rfl (wr1 x) ?_; have K2 := Lib.hid (K1.out.alloc (.cells (wrC x) 41)); have S2 := Lib.hid (show BxQ w M x w.heap.size (w.heap.size + 1) w1.heap.size (w1.alloc (.cells (wrC x) 41)) d ta (some ⟨qb, qo, none⟩) da la tc qc dc lc from ⟨blk_old C0.out _, blk_old C4.out _, blk_new _ _, (HH.out.mono (fun i hi q => by rcases q with q | q | q | q | q; exact q; all_goals omega)).kept (K1.out.alloc _).of_no, K1.out.alloc _, ⟨by omega, by omega, by omega⟩, ⟨by omega, by omega, by omega⟩⟩); have RT := Lib.hid (HR1.out.kept K2.out.of_no (fun _ _ x => x)); generalize (w1.alloc (.cells (wrC x) 41)) = w2 at *; have s3 := cell_blk S2.out.hd 3 _ dv3; clear t3)
      | (at_builtin; refine wpList_append_S (M := M) rfl (.tmp 35) (.tmp 39) 24 rfl 224 tyWrites _ rfl (OwnS.nil w2 _ _ _) _ rfl RT.out eWr_one 0 kn rfl HTK.out (by unfold maxLen; have := HQL.out; omega) (by omega) ?_; rw [Nat.zero_add, List.nil_append]; intro a3 cap3 w3 O3 hown hkk hnn; have k23 : Kept NoM w2 w3 := hkk.mono (fun i _ q => by cases q); have S3 := Lib.hid (S2.out.kept k23); have OW3 := Lib.hid hown; have N3 := Lib.hid hnn; have RD3 := Lib.hid ((HR2.out.kept K2.out.of_no (fun _ _ x => x)).kept k23.of_no (fun _ _ x => x)); have t3 := cell_blk S3.out.hd 3 _ dv3; have K23 := Lib.hid k23; clear hown hkk hnn k23 s3)
      | (at_builtin; refine wpList_append_S (M := M) rfl (.tmp 41) (.tmp 46) 24 rfl 224 tyWrites _ rfl OW3.out _ rfl RD3.out eWr_one kn (d.queue.length - (kn + 1)) HTK.out HDP.out (by unfold maxLen; have := HQL.out; omega) (by have := HQL.out; omega) ?_; rw [HLE.out, ← List.eraseIdx_eq_take_drop_succ]; intro a4 cap4 w4 O4 hown hkk hnn; have S4 := Lib.hid (S2.out.kept (K23.out.trans' hkk (fun i hi e => newO_no N3.out i hi e))); have QR : Hid (RdS w4 (BX M w.heap.size (w.heap.size + 1) w1.heap.size w1.heap.size) 26 EWr (.slice a4 (d.queue.eraseIdx kn).length cap4) (d.queue.eraseIdx kn)) := Lib.hid (S2.out.rdn HM.out hown (newO_le (N3.out.trans hnn K23.out.size))); have S5 : Hid (BxQ w M x w.heap.size (w.heap.size + 1) w1.heap.size (w4.setCell ⟨w.heap.size, 3, none⟩ (.slice a4 (d.queue.eraseIdx kn).length cap4)) ({ d with queue := d.queue.eraseIdx kn } : Dev) ta a4 da la tc cap4 dc lc) := Lib.hid (S4.out.set 3 _ (by simp [devC]) ⟨S4.out.rd.rt, QR.out, S4.out.rd.rd, S4.out.rd.rl⟩); have c3 := cell_blk S4.out.hd 3 _ dv3; have e3 := free_blk S4.out.hd 3; have c5 := cell_blk S4.out.hd 5 _ dv5; have u1 := cell_blk S4.out.hx 1 _ (wrC_1 x); clear hown hkk hnn))
  refine (rhas_ok _ d.lost (BX M w.heap.size (w.heap.size + 1) w1.heap.size w1.heap.size) x.seq _ S5.out.rd.rl (by omega)).mono ?_
  rw [HLO.out]
  rintro e wz ⟨rfl, rfl⟩
  clear hs1 hs2 t3 c3 e3 c5 u1 y3 B0 B4 KB C0 C4 HC0 HC1 HR1 HR2 RT RD3 S2 S3 S4 OW3 QR hw1 f0 f1 f2
  generalize (w4.setCell ⟨w.heap.size, 3, none⟩ (.slice a4 (d.queue.eraseIdx kn).length cap4)) = w6 at *
  have v0 := cell_blk S5.out.hx 0 _ (wrC_0 x)
  have v1 := cell_blk S5.out.hx 1 _ (wrC_1 x)
  have t2 := cell_blk S5.out.hd 2 _ dv2
  have t0 := cell_blk S5.out.hd 0 _ dv0
  go_wp2_with (first
      | (refine wpList_load_big bigWr rfl _ rfl w1.heap.size 0 (wrC x) rfl (range_blk S5.out.hx) rfl ?_)
      | (go_at_call 29; refine (rput_ok _ d.table (BX M w.heap.size (w.heap.size + 1) w1.heap.size w1.heap.size) d.room x w6 S5.out.rd.rt (S5.out.bxlt HM.out) HDT.out (by omega)).mono ?_; rw [HPK.out]; rintro e w7 ⟨a7, cap7, rfl, q1, q2⟩; have S7 := Lib.hid (S5.out.kept q2); have S8 : Hid (BxQ w M x w.heap.size (w.heap.size + 1) w1.heap.size (w7.setCell ⟨w.heap.size, 2, none⟩ (.slice a7 (putT d.table d.room x).length cap7)) ({ d with queue := d.queue.eraseIdx kn, table := (putT d.table d.room x) } : Dev) a7 a4 da la cap7 cap4 dc lc) := Lib.hid (S7.out.set 2 _ (by simp [devC]) ⟨q1, S7.out.rd.rq, S7.out.rd.rd, S7.out.rd.rl⟩); have y2 := cell_blk S7.out.hd 2 _ dv2; have z2 := free_blk S7.out.hd 2; have v07 := cell_blk S7.out.hx 0 _ (wrC_0 x); have v17 := cell_blk S7.out.hx 1 _ (wrC_1 x); clear q1 q2)
      | (refine wpList_alloc_Z rfl 60 rfl _ (akZ _) ?_; generalize w7.setCell ⟨w.heap.size, 2, none⟩ (.slice a7 (putT d.table d.room x).length cap7) = w75 at *)
      | (refine wpList_store_bign (cs := akC x 0) bigAk rfl _ _ rfl w75.heap.size rfl rfl rfl rfl rfl (ak1 x 0) ?_; have S6 := Lib.hid (S8.out.ack (A := w75.heap.size) rfl); unfold akC))
  generalize (w75.alloc (.cells #[.int .i64 x.ep, .int .i64 x.seq, .int .i64 0] 60)) = w8 at *
  clear v0 v1 v07 v17 t0 t2 y2 z2 S5 S7 S8
  go_loopw [11, 12, 13] (fun v p i wr => ∃ (k : Nat) (a1 : Option Addr) (n cap1 : Nat) (O : Option Nat) (l : List Int) (b : Bool), k ≤ d.done.length ∧ i = .int .i64 k ∧ v = .slice a1 n cap1 ∧ p = .bool b ∧ l.length = n ∧ Hid ((d.done.take k).foldl (stepN x.seq) ([], false) = (l, b)) ∧ Hid (OwnS wr O 3 1 EInt (.slice a1 n cap1) l) ∧ Hid (NewO w8 none O) ∧ Hid (Kept NoM w8 wr)) (fun _ _ i _ => d.done.length - (intOf i).toNat)
  case atStart => exact ⟨0, none, 0, 0, none, [], false, Nat.zero_le _, rfl, rfl, rfl, rfl, Lib.hid rfl, Lib.hid (OwnS.nil _ _ _ _), Lib.hid (NewO.refl _ _), Lib.hid (Kept.refl _ _)⟩
  case round =>
    obtain ⟨k, a1, n, cap1, O, l, b, hk, rfl, rfl, rfl, hn, hF, hO, hN, hK⟩ := hrel
    have hn2 : n ≤ 2 * d.done.length := by
      have := foldN_len x.seq (d.done.take k) ([], false)
      rw [hF.out, List.length_take] at this
      simp only [List.length_nil, Nat.zero_add] at this
      have h2 : min k d.done.length ≤ d.done.length := Nat.min_le_right _ _
      omega
    have SK := Lib.hid (S6.out.kept hK.out)
    by_cases hlt : k < d.done.length
    · have hki : (k : Int) < d.done.length := by omega
      obtain ⟨y, hy⟩ := getAt hlt
      have HY := Lib.hid hy
      obtain ⟨b0, off, e1, _⟩ := SK.out.rd.rd.at hy
      subst e1
      have HS := Lib.hid ((foldN_succ hy ([], false)).trans (by rw [hF.out]))
      clear hy
      have x1 := cell_blk SK.out.hx 1 _ (wrC_1 x)
      have s4 := cell_blk SK.out.hd 4 _ dv4
      have r0 := intAt SK.out.rd.rd HY.out
      by_cases hg : x.seq < y
      · have g1 := decide_eq_true hg
        cases b with
        | true =>
          have HS2 : Hid ((d.done.take (k + 1)).foldl (stepN x.seq) ([], false) = (l ++ [y], true)) := Lib.hid (HS.out.trans (by unfold stepN; simp only []; simp))
          clear hg HS
          go_wp2_with fail
          go_quiet (fail)
          generalize hWD : World.drewN wr _ = wd1
          have KD1 := Lib.hid (show Kept NoM wr wd1 from hWD ▸ (Kept.refl NoM wr).drewN _)
          clear hWD
          have S1x := Lib.hid (SK.out.kept KD1.out)
          have R1 := Lib.hid (hK.out.trans KD1.out)
          have Q1 := Lib.hid (hO.out.kept KD1.out (fun _ _ x => x) (fun _ _ x => x))
          have x11 := cell_blk S1x.out.hx 1 _ (wrC_1 x)
          have s41 := cell_blk S1x.out.hd 4 _ dv4
          have r01 := intAt S1x.out.rd.rd HY.out
          have HR2 := Lib.hid (rd_one (M := NoM) (sz := 1) (E := EInt) (x := y) (blk_new wd1 (.cells #[.int .i64 y] 3)) (fun x => x) rfl rfl)
          have KI2 := Lib.hid ((Kept.refl NoM wd1).alloc (.cells #[.int .i64 y] 3))
          have OA2 := Lib.hid (Q1.out.kept KI2.out (fun _ _ x => x) (fun _ _ x => x))
          go_wp2_with (first | (at_builtin; refine wpList_append_S (M := NoM) rfl (.tmp 95) (.tmp 101) 25 rfl 8 tyInts _ rfl OA2.out _ rfl HR2.out eInt_one (n) 1 hn rfl (by unfold maxLen; omega) (by omega) ?_; intro a2x cap2x w2x O2 hown hkk hnn; have OW2 := Lib.hid hown; have KA2 : Hid (Kept (fun k => some k = O) wd1 w2x) := Lib.hid (KI2.out.of_no.trans hkk); have R2 : Hid (Kept NoM w8 w2x) := Lib.hid (R1.out.trans' KA2.out (fun i hi e => newO_no hN.out i hi e)); have N2 : Hid (NewO w8 none O2) := Lib.hid (hN.out.trans hnn (Nat.le_trans R1.out.size KI2.out.size)); have S2x := Lib.hid (S6.out.kept R2.out); have hn2 : (l ++ [y]).length = n + 1 := (by rw [List.length_append, hn]; rfl); have x12 := cell_blk S2x.out.hx 1 _ (wrC_1 x); have s42 := cell_blk S2x.out.hd 4 _ dv4; have r02 := intAt S2x.out.rd.rd HY.out; clear hown hkk hnn))
          go_roundw
          case rel => exact ⟨k + 1, a2x, n + 1, cap2x, O2, l ++ [y], true, by omega, by go_num, rfl, rfl, hn2, HS2, OW2, N2, R2⟩
          case measure => simp [intOf]; omega
        | false =>
          have HS2 : Hid ((d.done.take (k + 1)).foldl (stepN x.seq) ([], false) = (l ++ [x.seq] ++ [y], true)) := Lib.hid (HS.out.trans (by unfold stepN; simp only []; simp [hg]))
          clear hg HS
          go_wp2_with fail
          go_quiet (fail)
          generalize hWD : World.drewN wr _ = wd1
          have KD1 := Lib.hid (show Kept NoM wr wd1 from hWD ▸ (Kept.refl NoM wr).drewN _)
          clear hWD
          have S1x := Lib.hid (SK.out.kept KD1.out)
          have R1 := Lib.hid (hK.out.trans KD1.out)
          have Q1 := Lib.hid (hO.out.kept KD1.out (fun _ _ x => x) (fun _ _ x => x))
          have x11 := cell_blk S1x.out.hx 1 _ (wrC_1 x)
          have s41 := cell_blk S1x.out.hd 4 _ dv4
          have r01 := intAt S1x.out.rd.rd HY.out
          have HR2 := Lib.hid (rd_one (M := NoM) (sz := 1) (E := EInt) (x := x.seq) (blk_new wd1 (.cells #[.int .i64 x.seq] 3)) (fun x => x) rfl rfl)
          have KI2 := Lib.hid ((Kept.refl NoM wd1).alloc (.cells #[.int .i64 x.seq] 3))
          have OA2 := Lib.hid (Q1.out.kept KI2.out (fun _ _ x => x) (fun _ _ x => x))
          go_wp2_with (first | (at_builtin; refine wpList_append_S (M := NoM) rfl (.tmp 90) (.tmp 93) 25 rfl 8 tyInts _ rfl OA2.out _ rfl HR2.out eInt_one (n) 1 hn rfl (by unfold maxLen; omega) (by omega) ?_; intro a2x cap2x w2x O2 hown hkk hnn; have OW2 := Lib.hid hown; have KA2 : Hid (Kept (fun k => some k = O) wd1 w2x) := Lib.hid (KI2.out.of_no.trans hkk); have R2 : Hid (Kept NoM w8 w2x) := Lib.hid (R1.out.trans' KA2.out (fun i hi e => newO_no hN.out i hi e)); have N2 : Hid (NewO w8 none O2) := Lib.hid (hN.out.trans hnn (Nat.le_trans R1.out.size KI2.out.size)); have S2x := Lib.hid (S6.out.kept R2.out); have hn2 : (l ++ [x.seq]).length = n + 1 := (by rw [List.length_append, hn]; rfl); have x12 := cell_blk S2x.out.hx 1 _ (wrC_1 x); have s42 := cell_blk S2x.out.hd 4 _ dv4; have r02 := intAt S2x.out.rd.rd HY.out; have HR3 := Lib.hid (rd_one (M := NoM) (sz := 1) (E := EInt) (x := y) (blk_new w2x (.cells #[.int .i64 y] 3)) (fun x => x) rfl rfl); have KI3 := Lib.hid ((Kept.refl NoM w2x).alloc (.cells #[.int .i64 y] 3)); have OA3 := Lib.hid (OW2.out.kept KI3.out (fun _ _ x => x) (fun _ _ x => x)); clear hown hkk hnn) | (at_builtin; refine wpList_append_S (M := NoM) rfl (.tmp 95) (.tmp 101) 25 rfl 8 tyInts _ rfl OA3.out _ rfl HR3.out eInt_one (n + 1) 1 hn2 rfl (by unfold maxLen; omega) (by omega) ?_; intro a3x cap3x w3x O3 hown hkk hnn; have OW3 := Lib.hid hown; have KA3 : Hid (Kept (fun k => some k = O2) w2x w3x) := Lib.hid (KI3.out.of_no.trans hkk); have R3 : Hid (Kept NoM w8 w3x) := Lib.hid (R2.out.trans' KA3.out (fun i hi e => newO_no N2.out i hi e)); have N3 : Hid (NewO w8 none O3) := Lib.hid (N2.out.trans hnn (Nat.le_trans R2.out.size KI3.out.size)); have S3x := Lib.hid (S6.out.kept R3.out); have hn3 : (l ++ [x.seq] ++ [y]).length = n + 1 + 1 := (by rw [List.length_append, hn2]; rfl); have x13 := cell_blk S3x.out.hx 1 _ (wrC_1 x); have s43 := cell_blk S3x.out.hd 4 _ dv4; have r03 := intAt S3x.out.rd.rd HY.out; clear hown hkk hnn))
          go_roundw
          case rel => exact ⟨k + 1, a3x, n + 1 + 1, cap3x, O3, l ++ [x.seq] ++ [y], true, by omega, by go_num, rfl, rfl, hn3, HS2, OW3, N3, R3⟩
          case measure => simp [intOf]; omega
      · have g1 := decide_eq_false hg
        have HS2 : Hid ((d.done.take (k + 1)).foldl (stepN x.seq) ([], false) = (l ++ [y], b)) := Lib.hid (HS.out.trans (by unfold stepN; simp only []; simp [hg]))
        clear hg HS
        go_wp2_with fail
        go_quiet (fail)
        generalize hWD : World.drewN wr _ = wd1
        have KD1 := Lib.hid (show Kept NoM wr wd1 from hWD ▸ (Kept.refl NoM wr).drewN _)
        clear hWD
        have S1x := Lib.hid (SK.out.kept KD1.out)
        have R1 := Lib.hid (hK.out.trans KD1.out)
        have Q1 := Lib.hid (hO.out.kept KD1.out (fun _ _ x => x) (fun _ _ x => x))
        have x11 := cell_blk S1x.out.hx 1 _ (wrC_1 x)
        have s41 := cell_blk S1x.out.hd 4 _ dv4
        have r01 := intAt S1x.out.rd.rd HY.out
        have HR2 := Lib.hid (rd_one (M := NoM) (sz := 1) (E := EInt) (x := y) (blk_new wd1 (.cells #[.int .i64 y] 3)) (fun x => x) rfl rfl)
        have KI2 := Lib.hid ((Kept.refl NoM wd1).alloc (.cells #[.int .i64 y] 3))
        have OA2 := Lib.hid (Q1.out.kept KI2.out (fun _ _ x => x) (fun _ _ x => x))
        go_wp2_with (first | (at_builtin; refine wpList_append_S (M := NoM) rfl (.tmp 95) (.tmp 101) 25 rfl 8 tyInts _ rfl OA2.out _ rfl HR2.out eInt_one (n) 1 hn rfl (by unfold maxLen; omega) (by omega) ?_; intro a2x cap2x w2x O2 hown hkk hnn; have OW2 := Lib.hid hown; have KA2 : Hid (Kept (fun k => some k = O) wd1 w2x) := Lib.hid (KI2.out.of_no.trans hkk); have R2 : Hid (Kept NoM w8 w2x) := Lib.hid (R1.out.trans' KA2.out (fun i hi e => newO_no hN.out i hi e)); have N2 : Hid (NewO w8 none O2) := Lib.hid (hN.out.trans hnn (Nat.le_trans R1.out.size KI2.out.size)); have S2x := Lib.hid (S6.out.kept R2.out); have hn2 : (l ++ [y]).length = n + 1 := (by rw [List.length_append, hn]; rfl); have x12 := cell_blk S2x.out.hx 1 _ (wrC_1 x); have s42 := cell_blk S2x.out.hd 4 _ dv4; have r02 := intAt S2x.out.rd.rd HY.out; clear hown hkk hnn))
        go_roundw
        case rel => exact ⟨k + 1, a2x, n + 1, cap2x, O2, l ++ [y], b, by omega, by go_num, rfl, rfl, hn2, HS2, OW2, N2, R2⟩
        case measure => simp [intOf]; omega
    · obtain rfl : k = d.done.length := by omega
      have g1 := decide_eq_false (show ¬ ((d.done.length : Nat) : Int) < d.done.length by omega)
      have g2 := decide_eq_false (show ¬ d.done.length < d.done.length by omega)
      have HL : Hid (endN x.seq (l, b) = insI x.seq d.done) := Lib.hid (by have h9 := stepN_ins (n := x.seq) d.done []; rw [List.nil_append] at h9; rw [← h9, ← hF.out, List.take_length])
      have x1 := cell_blk SK.out.hx 1 _ (wrC_1 x)
      have s4 := cell_blk SK.out.hd 4 _ dv4
      have o4 := free_blk SK.out.hd 4
      cases b with
      | true =>
        have HL2 : Hid (l = insI x.seq d.done) := Lib.hid (by have := HL.out; unfold endN at this; simpa using this)
        have HIN : (insI x.seq d.done).length = n := HL2.out ▸ hn
        have QR : Hid (RdS wr (BX M w.heap.size (w.heap.size + 1) w1.heap.size w75.heap.size) 1 EInt (.slice a1 (n) cap1) (insI x.seq d.done)) := Lib.hid (HL2.out ▸ S6.out.rdn HM.out hO.out (newO_le hN.out))
        have S11 : Hid (BxSt w M x w.heap.size (w.heap.size + 1) w1.heap.size w75.heap.size (wr.setCell ⟨w.heap.size, 4, none⟩ (.slice a1 (n) cap1)) ({ d with queue := d.queue.eraseIdx kn, table := (putT d.table d.room x), done := insI x.seq d.done } : Dev) 0 a7 a4 a1 la cap7 cap4 cap1 lc) := Lib.hid (SK.out.set 4 _ (by simp [devC, HIN]) ⟨SK.out.rd.rt, SK.out.rd.rq, RdS.len HIN.symm QR.out, SK.out.rd.rl⟩)
        clear HIN
        go_wp2_with (first
              | (refine wpList_load_big bigDev rfl _ rfl w.heap.size 0 (devC ({ d with queue := d.queue.eraseIdx kn, table := (putT d.table d.room x), done := insI x.seq d.done } : Dev) a7 cap7 a4 cap4 a1 cap1 la lc) rfl (range_blk (by first | exact S12.out.hd | exact S11.out.hd)) rfl ?_)
              | (refine wpList_load_big bigWr rfl _ rfl w1.heap.size 0 (wrC x) rfl (range_blk S11.out.hx) rfl ?_)
              | (go_at_call 59; refine (rearly_ok ({ d with queue := d.queue.eraseIdx kn, table := (putT d.table d.room x), done := insI x.seq d.done } : Dev) x a7 a4 a1 la cap7 cap4 cap1 lc _).mono ?_; rw [HE.out]; rintro e w12 ⟨rfl, k4⟩; have S12 := Lib.hid (S11.out.kept k4); clear k4)
              | (refine wpList_store_bigb (cs := devC ({ d with queue := d.queue.eraseIdx kn, table := (putT d.table d.room x), done := insI x.seq d.done } : Dev) a7 cap7 a4 cap4 a1 cap1 la lc) bigDev rfl _ _ rfl (w.heap.size + 1) rfl rfl S12.out.hz rfl rfl (dev1 _ _ _ _ _ _ _ _ _) ?_))
        have GB := Lib.hid (putB_blk w12 (w.heap.size + 1) (devC ({ d with queue := d.queue.eraseIdx kn, table := (putT d.table d.room x), done := insI x.seq d.done } : Dev) a7 cap7 a4 cap4 a1 cap1 la lc) 27 (lt_of_block S12.out.hz))
        have FD := Lib.hid (S12.out.dev ((Kept.refl (fun i => i = w.heap.size + 1) w12).putM rfl (devC ({ d with queue := d.queue.eraseIdx kn, table := (putT d.table d.room x), done := insI x.seq d.done } : Dev) a7 cap7 a4 cap4 a1 cap1 la lc) 27))
        generalize putB w12 (w.heap.size + 1) (devC ({ d with queue := d.queue.eraseIdx kn, table := (putT d.table d.room x), done := insI x.seq d.done } : Dev) a7 cap7 a4 cap4 a1 cap1 la lc) 27 = wx at *
        have hl0 : _root_.Go.World.cell? _ ⟨w.heap.size + 1, 0, none⟩ = _ := cell_blk GB.out 0 _ dv0
        have hl1 : _root_.Go.World.cell? _ ⟨w.heap.size + 1, 1, none⟩ = _ := cell_blk GB.out 1 _ dv1
        have hl2 : _root_.Go.World.cell? _ ⟨w.heap.size + 1, 2, none⟩ = _ := cell_blk GB.out 2 _ dv2
        have hl3 : _root_.Go.World.cell? _ ⟨w.heap.size + 1, 3, none⟩ = _ := cell_blk GB.out 3 _ dv3
        have hl4 : _root_.Go.World.cell? _ ⟨w.heap.size + 1, 4, none⟩ = _ := cell_blk GB.out 4 _ dv4
        have hl5 : _root_.Go.World.cell? _ ⟨w.heap.size + 1, 5, none⟩ = _ := cell_blk GB.out 5 _ dv5
        have hl6 : _root_.Go.World.cell? _ ⟨w.heap.size + 1, 6, none⟩ = _ := cell_blk GB.out 6 _ dv6
        refine bodyPost_ret (v := .tuple #[.agg (devC ({ d with queue := d.queue.eraseIdx kn, table := (putT d.table d.room x), done := insI x.seq d.done } : Dev) a7 cap7 a4 cap4 a1 cap1 la lc), .slice none 0 0, .int .i64 0]) (by simp [results, Try.results19, go_sem, devC, devZC, dev0, hl0, hl1, hl2, hl3, hl4, hl5, hl6]) rfl ?_
        exact ⟨_, _, rfl, FD.out.1, acks_nil, FD.out.2⟩
      | false =>
        have HL2 : Hid (l ++ [x.seq] = insI x.seq d.done) := Lib.hid (by have := HL.out; unfold endN at this; simpa using this)
        have HR1 := Lib.hid (rd_one (M := NoM) (sz := 1) (E := EInt) (x := x.seq) (blk_new wr (.cells #[.int .i64 x.seq] 3)) (fun x => x) rfl rfl)
        have KI1 := Lib.hid ((Kept.refl NoM wr).alloc (.cells #[.int .i64 x.seq] 3))
        have OA1 := Lib.hid (hO.out.kept KI1.out (fun _ _ x => x) (fun _ _ x => x))
        go_wp2_with (first | (at_builtin; refine wpList_append_S (M := NoM) rfl (.tmp 105) (.tmp 108) 25 rfl 8 tyInts _ rfl OA1.out _ rfl HR1.out eInt_one (n) 1 hn rfl (by unfold maxLen; omega) (by omega) ?_; intro a1x cap1x w1x O1 hown hkk hnn; have OW1 := Lib.hid hown; have KA1 : Hid (Kept (fun k => some k = O) wr w1x) := Lib.hid (KI1.out.of_no.trans hkk); have R1 : Hid (Kept NoM w8 w1x) := Lib.hid (hK.out.trans' KA1.out (fun i hi e => newO_no hN.out i hi e)); have N1 : Hid (NewO w8 none O1) := Lib.hid (hN.out.trans hnn (Nat.le_trans hK.out.size KI1.out.size)); have S1x := Lib.hid (S6.out.kept R1.out); have hn1 : (l ++ [x.seq]).length = n + 1 := (by rw [List.length_append, hn]; rfl); have x11 := cell_blk S1x.out.hx 1 _ (wrC_1 x); have s41 := cell_blk S1x.out.hd 4 _ dv4; have o41 := free_blk S1x.out.hd 4; have HIN : (insI x.seq d.done).length = n + 1 := HL2.out ▸ hn1; have QR : Hid (RdS w1x (BX M w.heap.size (w.heap.size + 1) w1.heap.size w75.heap.size) 1 EInt (.slice a1x (n + 1) cap1x) (insI x.seq d.done)) := Lib.hid (HL2.out ▸ S6.out.rdn HM.out OW1.out (newO_le N1.out)); have S11 : Hid (BxSt w M x w.heap.size (w.heap.size + 1) w1.heap.size w75.heap.size (w1x.setCell ⟨w.heap.size, 4, none⟩ (.slice a1x (n + 1) cap1x)) ({ d with queue := d.queue.eraseIdx kn, table := (putT d.table d.room x), done := insI x.seq d.done } : Dev) 0 a7 a4 a1x la cap7 cap4 cap1x lc) := Lib.hid (S1x.out.set 4 _ (by simp [devC, HIN]) ⟨S1x.out.rd.rt, S1x.out.rd.rq, RdS.len HIN.symm QR.out, S1x.out.rd.rl⟩); clear HIN; clear hown hkk hnn) | (refine wpList_load_big bigDev rfl _ rfl w.heap.size 0 (devC ({ d with queue := d.queue.eraseIdx kn, table := (putT d.table d.room x), done := insI x.seq d.done } : Dev) a7 cap7 a4 cap4 a1x cap1x la lc) rfl (range_blk (by first | exact S12.out.hd | exact S11.out.hd)) rfl ?_) | (refine wpList_load_big bigWr rfl _ rfl w1.heap.size 0 (wrC x) rfl (range_blk S11.out.hx) rfl ?_) | (go_at_call 59; refine (rearly_ok ({ d with queue := d.queue.eraseIdx kn, table := (putT d.table d.room x), done := insI x.seq d.done } : Dev) x a7 a4 a1x la cap7 cap4 cap1x lc _).mono ?_; rw [HE.out]; rintro e w12 ⟨rfl, k4⟩; have S12 := Lib.hid (S11.out.kept k4); clear k4) | (refine wpList_store_bigb (cs := devC ({ d with queue := d.queue.eraseIdx kn, table := (putT d.table d.room x), done := insI x.seq d.done } : Dev) a7 cap7 a4 cap4 a1x cap1x la lc) bigDev rfl _ _ rfl (w.heap.size + 1) rfl rfl S12.out.hz rfl rfl (dev1 _ _ _ _ _ _ _ _ _) ?_))
        have GB := Lib.hid (putB_blk w12 (w.heap.size + 1) (devC ({ d with queue := d.queue.eraseIdx kn, table := (putT d.table d.room x), done := insI x.seq d.done } : Dev) a7 cap7 a4 cap4 a1x cap1x la lc) 27 (lt_of_block S12.out.hz))
        have FD := Lib.hid (S12.out.dev ((Kept.refl (fun i => i = w.heap.size + 1) w12).putM rfl (devC ({ d with queue := d.queue.eraseIdx kn, table := (putT d.table d.room x), done := insI x.seq d.done } : Dev) a7 cap7 a4 cap4 a1x cap1x la lc) 27))
        generalize putB w12 (w.heap.size + 1) (devC ({ d with queue := d.queue.eraseIdx kn, table := (putT d.table d.room x), done := insI x.seq d.done } : Dev) a7 cap7 a4 cap4 a1x cap1x la lc) 27 = wx at *
        have hl0 : _root_.Go.World.cell? _ ⟨w.heap.size + 1, 0, none⟩ = _ := cell_blk GB.out 0 _ dv0
        have hl1 : _root_.Go.World.cell? _ ⟨w.heap.size + 1, 1, none⟩ = _ := cell_blk GB.out 1 _ dv1
        have hl2 : _root_.Go.World.cell? _ ⟨w.heap.size + 1, 2, none⟩ = _ := cell_blk GB.out 2 _ dv2
        have hl3 : _root_.Go.World.cell? _ ⟨w.heap.size + 1, 3, none⟩ = _ := cell_blk GB.out 3 _ dv3
        have hl4 : _root_.Go.World.cell? _ ⟨w.heap.size + 1, 4, none⟩ = _ := cell_blk GB.out 4 _ dv4
        have hl5 : _root_.Go.World.cell? _ ⟨w.heap.size + 1, 5, none⟩ = _ := cell_blk GB.out 5 _ dv5
        have hl6 : _root_.Go.World.cell? _ ⟨w.heap.size + 1, 6, none⟩ = _ := cell_blk GB.out 6 _ dv6
        refine bodyPost_ret (v := .tuple #[.agg (devC ({ d with queue := d.queue.eraseIdx kn, table := (putT d.table d.room x), done := insI x.seq d.done } : Dev) a7 cap7 a4 cap4 a1x cap1x la lc), .slice none 0 0, .int .i64 0]) (by simp [results, Try.results19, go_sem, devC, devZC, dev0, hl0, hl1, hl2, hl3, hl4, hl5, hl6]) rfl ?_
        exact ⟨_, _, rfl, FD.out.1, acks_nil, FD.out.2⟩
end Go.Proofs.Ytghgegghlefclaa

/- Walks: Do of the specification. -/
namespace Go.Proofs.Ytghgegghlefclaa
open Go.RowKit
set_option maxHeartbeats 4000000
set_option maxRecDepth 8000
theorem rdo_p2 (d : Dev) (kn : Nat) (x : Wr) (ta qa da la : Option Addr) (tc qc dc lc : Nat) (M : Nat → Prop) (w : World) (h : DevR w M d ta tc qa qc da dc la lc) (hM : ∀ i, M i → i < w.heap.size) (hk : d.queue[kn]? = some x) (hr : rdyB d.queue kn = true)
    (hql : d.queue.length ≤ 1000) (htl : d.table.length ≤ 1000) (hdl : d.done.length ≤ 1000) (hll : d.lost.length ≤ 1000) (hdt : DecT d.table) (hlo : hasI d.lost x.seq = false) (hpk : putOk d.table d.room x = true) (he : earlyW d x = false) :
    Calls Try.prog 19 #[.agg (devC d ta tc qa qc da dc la lc), .int .i64 kn] w (DoPost M w ({ d with queue := d.queue.eraseIdx kn, table := (putT d.table d.room x), done := insI x.seq d.done }) ([⟨x.ep, x.seq, 0⟩])) := by
  obtain ⟨qb, qo, rfl, _, hc0⟩ := wr_at h.rq hk
  have hkl := (List.getElem?_eq_some_iff.1 hk).1
  have hki : (kn : Int) < d.queue.length := by omega
  have KB := Lib.hid (((Kept.refl NoM w).alloc (.cells (devC d ta tc (some ⟨qb, qo, none⟩) qc da dc la lc) 27)).alloc (.cells devZC 27))
  have B0 := Lib.hid (blk_old (blk_new w (.cells (devC d ta tc (some ⟨qb, qo, none⟩) qc da dc la lc) 27)) (.cells devZC 27))
  have B4 := Lib.hid (blk_new' (w.alloc (.cells (devC d ta tc (some ⟨qb, qo, none⟩) qc da dc la lc) 27)) (.cells devZC 27) (w.heap.size + 1) (by simp))
  have y3 := cell_blk B0.out 3 _ dv3
  have f0 := decide_eq_false (show ¬ (kn : Int) < 0 by omega)
  have f1 := decide_eq_false (show ¬ (d.queue.length : Int) ≤ (kn : Int) by omega)
  have f2 := decide_eq_false (show ¬ d.queue.length ≤ kn by omega)
  have RD := Lib.hid (rready1_ok d ta (some ⟨qb, qo, none⟩) da la tc qc dc lc M _ (h.rq.kept KB.out.of_no (fun _ _ x => x)) (by omega) kn hkl)
  rw [hr] at RD
  obtain ⟨ti, hti, htz⟩ := info_of (P := Try.prog) (e := 41) (n := 26) (by kernel_rfl)
  obtain ⟨sa, sc, hs1, hr1⟩ := RdS.slice (P := Try.prog) 24 41 ti Try.underlying24 hti htz h.rq 0 kn (Nat.zero_le _) (Nat.le_of_lt hkl) none (.inr ⟨rfl, rfl⟩)
  obtain ⟨sb, sd, hs2, hr2⟩ := RdS.sliceFrom (P := Try.prog) 24 41 ti Try.underlying24 hti htz h.rq (kn + 1) hkl
  have hs2 : ∀ wx, (Instr.slice 24 (.slice (some ⟨qb, qo, none⟩) d.queue.length qc) (some (.int .i64 ((kn : Int) + 1))) none none).run Try.prog wx = .ok (.slice sb (d.queue.length - (kn + 1)) sd) wx := hs2
  rw [Nat.sub_zero] at hr1
  simp only [Nat.sub_zero] at hs1
  rw [List.drop_zero] at hr1
  have HR1 := Lib.hid hr1
  have HR2 := Lib.hid hr2
  have HC0 := Lib.hid (rangeAt_kept (M := NoM) hc0 (Kept.refl _ _) (fun x => x))
  have HH := Lib.hid h
  have HM := Lib.hid hM
  have hw1 : IntKind.i64.wrap ((kn : Int) + 1) = (kn : Int) + 1 := IntWalk.i64_in _ (by omega)
  have HLE := Lib.hid (cut_len hkl)
  have HQL := Lib.hid (show d.queue.length ≤ 1000000 by omega)
  have HTK : Hid ((d.queue.take kn).length = kn) := Lib.hid (by rw [List.length_take]; omega)
  have HDP : Hid ((d.queue.drop (kn + 1)).length = d.queue.length - (kn + 1)) := Lib.hid (by rw [List.length_drop])
  have HDT := Lib.hid hdt
  clear h hM hc0 hr hr1 hr2 hdt
  have HLO := Lib.hid hlo
  have HPK := Lib.hid hpk
  have HE := Lib.hid (show earlyW ({ d with queue := d.queue.eraseIdx kn, table := (putT d.table d.room x), done := insI x.seq d.done } : Dev) x = false from he)
  clear hlo he hpk
  go_enter Try.func19, Try.ntmps19
  go_wp2_with (first
      | (refine wpList_alloc_Z rfl 27 rfl _ (devZ _) ?_)
      | (refine wpList_alloc_Z rfl 41 rfl _ (wrZ _) ?_)
      | (refine wpList_load_bigG bigDev (by rfl) _ rfl w.heap.size 0 (devC d ta tc (some ⟨qb, qo, none⟩) qc da dc la lc) rfl (range_blk B0.out) rfl ?_)
      | (refine wpList_load_big bigWr rfl _ rfl qb (qo + kn * 26) (wrC x) rfl HC1.out rfl ?_)
      | (go_at_call 60; refine RD.out.mono ?_; rintro e w1 ⟨rfl, k1⟩; have K1 := Lib.hid (KB.out.trans k1); have C0 := Lib.hid (k1.blk B0.out (fun x => x)); have C4 := Lib.hid (k1.blk B4.out (fun x => x)); have HC1 := Lib.hid (rangeAt_kept HC0.out K1.out (fun x => x)); have t3 := cell_blk C0.out 3 _ dv3; have hz1 := lt_of_block C4.out; clear k1 RD)
      | (refine wpList_store_bign bigWr rfl _ _ rfl _ rfl rfl rfl rfl rfl (wr1 x) ?_; have K2 := Lib.hid (K1.out.alloc (.cells (wrC x) 41)); have S2 := Lib.hid (show BxQ w M x w.heap.size (w.heap.size + 1) w1.heap.size (w1.alloc (.cells (wrC x) 41)) d ta (some ⟨qb, qo, none⟩) da la tc qc dc lc from ⟨blk_old C0.out _, blk_old C4.out _, blk_new _ _, (HH.out.mono (fun i hi q => by rcases q with q | q | q | q | q; exact q; all_goals omega)).kept (K1.out.alloc _).of_no, K1.out.alloc _, ⟨by omega, by omega, by omega⟩, ⟨by omega, by omega, by omega⟩⟩); have RT := Lib.hid (HR1.out.kept K2.out.of_no (fun _ _ x => x)); generalize (w1.alloc (.cells (wrC x) 41)) = w2 at *; have s3 := cell_blk S2.out.hd 3 _ dv3; clear t3)
      | (at_builtin; refine wpList_append_S (M := M) rfl (.tmp 35) (.tmp 39) 24 rfl 224 tyWrites _ rfl (OwnS.nil w2 _ _ _) _ rfl RT.out eWr_one 0 kn rfl HTK.out (by unfold maxLen; have := HQL.out; omega) (by omega) ?_; rw [Nat.zero_add, List.nil_append]; intro a3 cap3 w3 O3 hown hkk hnn; have k23 : Kept NoM w2 w3 := hkk.mono (fun i _ q => by cases q); have S3 := Lib.hid (S2.out.kept k23); have OW3 := Lib.hid hown; have N3 := Lib.hid hnn; have RD3 := Lib.hid ((HR2.out.kept K2.out.of_no (fun _ _ x => x)).kept k23.of_no (fun _ _ x => x)); have t3 := cell_blk S3.out.hd 3 _ dv3; have K23 := Lib.hid k23; clear hown hkk hnn k23 s3)
      | (at_builtin; refine wpList_append_S (M := M) rfl (.tmp 41) (.tmp 46) 24 rfl 224 tyWrites _ rfl OW3.out _ rfl RD3.out eWr_one kn (d.queue.length - (kn + 1)) HTK.out HDP.out (by unfold maxLen; have := HQL.out; omega) (by have := HQL.out; omega) ?_; rw [HLE.out, ← List.eraseIdx_eq_take_drop_succ]; intro a4 cap4 w4 O4 hown hkk hnn; have S4 := Lib.hid (S2.out.kept (K23.out.trans' hkk (fun i hi e => newO_no N3.out i hi e))); have QR : Hid (RdS w4 (BX M w.heap.size (w.heap.size + 1) w1.heap.size w1.heap.size) 26 EWr (.slice a4 (d.queue.eraseIdx kn).length cap4) (d.queue.eraseIdx kn)) := Lib.hid (S2.out.rdn HM.out hown (newO_le (N3.out.trans hnn K23.out.size))); have S5 : Hid (BxQ w M x w.heap.size (w.heap.size + 1) w1.heap.size (w4.setCell ⟨w.heap.size, 3, none⟩ (.slice a4 (d.queue.eraseIdx kn).length cap4)) ({ d with queue := d.queue.eraseIdx kn } : Dev) ta a4 da la tc cap4 dc lc) := Lib.hid (S4.out.set 3 _ (by simp [devC]) ⟨S4.out.rd.rt, QR.out, S4.out.rd.rd, S4.out.rd.rl⟩); have c3 := cell_blk S4.out.hd 3 _ dv3; have e3 := free_blk S4.out.hd 3; have c5 := cell_blk S4.out.hd 5 _ dv5; have u1 := cell_blk S4.out.hx 1 _ (wrC_1 x); clear hown hkk hnn))
  refine (rhas_ok _ d.lost (BX M w.heap.size (w.heap.size + 1) w1.heap.size w1.heap.size) x.seq _ S5.out.rd.rl (by omega)).mono ?_
  rw [HLO.out]
  rintro e wz ⟨rfl, rfl⟩
  clear hs1 hs2 t3 c3 e3 c5 u1 y3 B0 B4 KB C0 C4 HC0 HC1 HR1 HR2 RT RD3 S2 S3 S4 OW3 QR hw1 f0 f1 f2
  generalize (w4.setCell ⟨w.heap.size, 3, none⟩ (.slice a4 (d.queue.eraseIdx kn).length cap4)) = w6 at *
  have v0 := cell_blk S5.out.hx 0 _ (wrC_0 x)
  have v1 := cell_blk S5.out.hx 1 _ (wrC_1 x)
  have t2 := cell_blk S5.out.hd 2 _ dv2
  have t0 := cell_blk S5.out.hd 0 _ dv0
  go_wp2_with (first
      | (refine wpList_load_big bigWr rfl _ rfl w1.heap.size 0 (wrC x) rfl (range_blk S5.out.hx) rfl ?_)
      | (go_at_call 29; refine (rput_ok _ d.table (BX M w.heap.size (w.heap.size + 1) w1.heap.size w1.heap.size) d.room x w6 S5.out.rd.rt (S5.out.bxlt HM.out) HDT.out (by omega)).mono ?_; rw [HPK.out]; rintro e w7 ⟨a7, cap7, rfl, q1, q2⟩; have S7 := Lib.hid (S5.out.kept q2); have S8 : Hid (BxQ w M x w.heap.size (w.heap.size + 1) w1.heap.size (w7.setCell ⟨w.heap.size, 2, none⟩ (.slice a7 (putT d.table d.room x).length cap7)) ({ d with queue := d.queue.eraseIdx kn, table := (putT d.table d.room x) } : Dev) a7 a4 da la cap7 cap4 dc lc) := Lib.hid (S7.out.set 2 _ (by simp [devC]) ⟨q1, S7.out.rd.rq, S7.out.rd.rd, S7.out.rd.rl⟩); have y2 := cell_blk S7.out.hd 2 _ dv2; have z2 := free_blk S7.out.hd 2; have v07 := cell_blk S7.out.hx 0 _ (wrC_0 x); have v17 := cell_blk S7.out.hx 1 _ (wrC_1 x); clear q1 q2)
      | (refine wpList_alloc_Z rfl 60 rfl _ (akZ _) ?_; generalize w7.setCell ⟨w.heap.size, 2, none⟩ (.slice a7 (putT d.table d.room x).length cap7) = w75 at *)
      | (refine wpList_store_bign (cs := akC x 0) bigAk rfl _ _ rfl w75.heap.size rfl rfl rfl rfl rfl (ak1 x 0) ?_; have S6 := Lib.hid (S8.out.ack (A := w75.heap.size) rfl); unfold akC))
  generalize (w75.alloc (.cells #[.int .i64 x.ep, .int .i64 x.seq, .int .i64 0] 60)) = w8 at *
  clear v0 v1 v07 v17 t0 t2 y2 z2 S5 S7 S8
  go_loopw [11, 12, 13] (fun v p i wr => ∃ (k : Nat) (a1 : Option Addr) (n cap1 : Nat) (O : Option Nat) (l : List Int) (b : Bool), k ≤ d.done.length ∧ i = .int .i64 k ∧ v = .slice a1 n cap1 ∧ p = .bool b ∧ l.length = n ∧ Hid ((d.done.take k).foldl (stepN x.seq) ([], false) = (l, b)) ∧ Hid (OwnS wr O 3 1 EInt (.slice a1 n cap1) l) ∧ Hid (NewO w8 none O) ∧ Hid (Kept NoM w8 wr)) (fun _ _ i _ => d.done.length - (intOf i).toNat)
  case atStart => exact ⟨0, none, 0, 0, none, [], false, Nat.zero_le _, rfl, rfl, rfl, rfl, Lib.hid rfl, Lib.hid (OwnS.nil _ _ _ _), Lib.hid (NewO.refl _ _), Lib.hid (Kept.refl _ _)⟩
  case round =>
    obtain ⟨k, a1, n, cap1, O, l, b, hk, rfl, rfl, rfl, hn, hF, hO, hN, hK⟩ := hrel
    have hn2 : n ≤ 2 * d.done.length := by
      have := foldN_len x.seq (d.done.take k) ([], false)
      rw [hF.out, List.length_take] at this
      simp only [List.length_nil, Nat.zero_add] at this
      have h2 : min k d.done.length ≤ d.done.length := Nat.min_le_right _ _
      omega
    have SK := Lib.hid (S6.out.kept hK.out)
    by_cases hlt : k < d.done.length
    · have hki : (k : Int) < d.done.length := by omega
      obtain ⟨y, hy⟩ := getAt hlt
      have HY := Lib.hid hy
      obtain ⟨b0, off, e1, _⟩ := SK.out.rd.rd.at hy
      subst e1
      have HS := Lib.hid ((foldN_succ hy ([], false)).trans (by rw [hF.out]))
      clear hy
      have x1 := cell_blk SK.out.hx 1 _ (wrC_1 x)
      have s4 := cell_blk SK.out.hd 4 _ dv4
      have r0 := intAt SK.out.rd.rd HY.out
      by_cases hg : x.seq < y
      · have g1 := decide_eq_true hg
        cases b with
        | true =>
          have HS2 : Hid ((d.done.take (k + 1)).foldl (stepN x.seq) ([], false) = (l ++ [y], true)) := Lib.hid (HS.out.trans (by unfold stepN; simp only []; simp))
          clear hg HS
          go_wp2_with fail
          go_quiet (fail)
          generalize hWD : World.drewN wr _ = wd1
          have KD1 := Lib.hid (show Kept NoM wr wd1 from hWD ▸ (Kept.refl NoM wr).drewN _)
          clear hWD
          have S1x := Lib.hid (SK.out.kept KD1.out)
          have R1 := Lib.hid (hK.out.trans KD1.out)
          have Q1 := Lib.hid (hO.out.kept KD1.out (fun _ _ x => x) (fun _ _ x => x))
          have x11 := cell_blk S1x.out.hx 1 _ (wrC_1 x)
          have s41 := cell_blk S1x.out.hd 4 _ dv4
          have r01 := intAt S1x.out.rd.rd HY.out
          have HR2 := Lib.hid (rd_one (M := NoM) (sz := 1) (E := EInt) (x := y) (blk_new wd1 (.cells #[.int .i64 y] 3)) (fun x => x) rfl rfl)
          have KI2 := Lib.hid ((Kept.refl NoM wd1).alloc (.cells #[.int .i64 y] 3))
          have OA2 := Lib.hid (Q1.out.kept KI2.out (fun _ _ x => x) (fun _ _ x => x))
          go_wp2_with (first | (at_builtin; refine wpList_append_S (M := NoM) rfl (.tmp 95) (.tmp 101) 25 rfl 8 tyInts _ rfl OA2.out _ rfl HR2.out eInt_one (n) 1 hn rfl (by unfold maxLen; omega) (by omega) ?_; intro a2x cap2x w2x O2 hown hkk hnn; have OW2 := Lib.hid hown; have KA2 : Hid (Kept (fun k => some k = O) wd1 w2x) := Lib.hid (KI2.out.of_no.trans hkk); have R2 : Hid (Kept NoM w8 w2x) := Lib.hid (R1.out.trans' KA2.out (fun i hi e => newO_no hN.out i hi e)); have N2 : Hid (NewO w8 none O2) := Lib.hid (hN.out.trans hnn (Nat.le_trans R1.out.size KI2.out.size)); have S2x := Lib.hid (S6.out.kept R2.out); have hn2 : (l ++ [y]).length = n + 1 := (by rw [List.length_append, hn]; rfl); have x12 := cell_blk S2x.out.hx 1 _ (wrC_1 x); have s42 := cell_blk S2x.out.hd 4 _ dv4; have r02 := intAt S2x.out.rd.rd HY.out; clear hown hkk hnn))
          go_roundw
          case rel => exact ⟨k + 1, a2x, n + 1, cap2x, O2, l ++ [y], true, by omega, by go_num, rfl, rfl, hn2, HS2, OW2, N2, R2⟩
          case measure => simp [intOf]; omega
        | false =>
          have HS2 : Hid ((d.done.take (k + 1)).foldl (stepN x.seq) ([], false) = (l ++ [x.seq] ++ [y], true)) := Lib.hid (HS.out.trans (by unfold stepN; simp only []; simp [hg]))
          clear hg HS
          go_wp2_with fail
          go_quiet (fail)
          generalize hWD : World.drewN wr _ = wd1
          have KD1 := Lib.hid (show Kept NoM wr wd1 from hWD ▸ (Kept.refl NoM wr).drewN _)
          clear hWD
          have S1x := Lib.hid (SK.out.kept KD1.out)
          have R1 := Lib.hid (hK.out.trans KD1.out)
          have Q1 := Lib.hid (hO.out.kept KD1.out (fun _ _ x => x) (fun _ _ x => x))
          have x11 := cell_blk S1x.out.hx 1 _ (wrC_1 x)
          have s41 := cell_blk S1x.out.hd 4 _ dv4
          have r01 := intAt S1x.out.rd.rd HY.out
          have HR2 := Lib.hid (rd_one (M := NoM) (sz := 1) (E := EInt) (x := x.seq) (blk_new wd1 (.cells #[.int .i64 x.seq] 3)) (fun x => x) rfl rfl)
          have KI2 := Lib.hid ((Kept.refl NoM wd1).alloc (.cells #[.int .i64 x.seq] 3))
          have OA2 := Lib.hid (Q1.out.kept KI2.out (fun _ _ x => x) (fun _ _ x => x))
          go_wp2_with (first | (at_builtin; refine wpList_append_S (M := NoM) rfl (.tmp 90) (.tmp 93) 25 rfl 8 tyInts _ rfl OA2.out _ rfl HR2.out eInt_one (n) 1 hn rfl (by unfold maxLen; omega) (by omega) ?_; intro a2x cap2x w2x O2 hown hkk hnn; have OW2 := Lib.hid hown; have KA2 : Hid (Kept (fun k => some k = O) wd1 w2x) := Lib.hid (KI2.out.of_no.trans hkk); have R2 : Hid (Kept NoM w8 w2x) := Lib.hid (R1.out.trans' KA2.out (fun i hi e => newO_no hN.out i hi e)); have N2 : Hid (NewO w8 none O2) := Lib.hid (hN.out.trans hnn (Nat.le_trans R1.out.size KI2.out.size)); have S2x := Lib.hid (S6.out.kept R2.out); have hn2 : (l ++ [x.seq]).length = n + 1 := (by rw [List.length_append, hn]; rfl); have x12 := cell_blk S2x.out.hx 1 _ (wrC_1 x); have s42 := cell_blk S2x.out.hd 4 _ dv4; have r02 := intAt S2x.out.rd.rd HY.out; have HR3 := Lib.hid (rd_one (M := NoM) (sz := 1) (E := EInt) (x := y) (blk_new w2x (.cells #[.int .i64 y] 3)) (fun x => x) rfl rfl); have KI3 := Lib.hid ((Kept.refl NoM w2x).alloc (.cells #[.int .i64 y] 3)); have OA3 := Lib.hid (OW2.out.kept KI3.out (fun _ _ x => x) (fun _ _ x => x)); clear hown hkk hnn) | (at_builtin; refine wpList_append_S (M := NoM) rfl (.tmp 95) (.tmp 101) 25 rfl 8 tyInts _ rfl OA3.out _ rfl HR3.out eInt_one (n + 1) 1 hn2 rfl (by unfold maxLen; omega) (by omega) ?_; intro a3x cap3x w3x O3 hown hkk hnn; have OW3 := Lib.hid hown; have KA3 : Hid (Kept (fun k => some k = O2) w2x w3x) := Lib.hid (KI3.out.of_no.trans hkk); have R3 : Hid (Kept NoM w8 w3x) := Lib.hid (R2.out.trans' KA3.out (fun i hi e => newO_no N2.out i hi e)); have N3 : Hid (NewO w8 none O3) := Lib.hid (N2.out.trans hnn (Nat.le_trans R2.out.size KI3.out.size)); have S3x := Lib.hid (S6.out.kept R3.out); have hn3 : (l ++ [x.seq] ++ [y]).length = n + 1 + 1 := (by rw [List.length_append, hn2]; rfl); have x13 := cell_blk S3x.out.hx 1 _ (wrC_1 x); have s43 := cell_blk S3x.out.hd 4 _ dv4; have r03 := intAt S3x.out.rd.rd HY.out; clear hown hkk hnn))
          go_roundw
          case rel => exact ⟨k + 1, a3x, n + 1 + 1, cap3x, O3, l ++ [x.seq] ++ [y], true, by omega, by go_num, rfl, rfl, hn3, HS2, OW3, N3, R3⟩
          case measure => simp [intOf]; omega
      · have g1 := decide_eq_false hg
        have HS2 : Hid ((d.done.take (k + 1)).foldl (stepN x.seq) ([], false) = (l ++ [y], b)) := Lib.hid (HS.out.trans (by unfold stepN; simp only []; simp [hg]))
        clear hg HS
        go_wp2_with fail
        go_quiet (fail)
        generalize hWD : World.drewN wr _ = wd1
        have KD1 := Lib.hid (show Kept NoM wr wd1 from hWD ▸ (Kept.refl NoM wr).drewN _)
        clear hWD
        have S1x := Lib.hid (SK.out.kept KD1.out)
        have R1 := Lib.hid (hK.out.trans KD1.out)
        have Q1 := Lib.hid (hO.out.kept KD1.out (fun _ _ x => x) (fun _ _ x => x))
        have x11 := cell_blk S1x.out.hx 1 _ (wrC_1 x)
        have s41 := cell_blk S1x.out.hd 4 _ dv4
        have r01 := intAt S1x.out.rd.rd HY.out
        have HR2 := Lib.hid (rd_one (M := NoM) (sz := 1) (E := EInt) (x := y) (blk_new wd1 (.cells #[.int .i64 y] 3)) (fun x => x) rfl rfl)
        have KI2 := Lib.hid ((Kept.refl NoM wd1).alloc (.cells #[.int .i64 y] 3))
        have OA2 := Lib.hid (Q1.out.kept KI2.out (fun _ _ x => x) (fun _ _ x => x))
        go_wp2_with (first | (at_builtin; refine wpList_append_S (M := NoM) rfl (.tmp 95) (.tmp 101) 25 rfl 8 tyInts _ rfl OA2.out _ rfl HR2.out eInt_one (n) 1 hn rfl (by unfold maxLen; omega) (by omega) ?_; intro a2x cap2x w2x O2 hown hkk hnn; have OW2 := Lib.hid hown; have KA2 : Hid (Kept (fun k => some k = O) wd1 w2x) := Lib.hid (KI2.out.of_no.trans hkk); have R2 : Hid (Kept NoM w8 w2x) := Lib.hid (R1.out.trans' KA2.out (fun i hi e => newO_no hN.out i hi e)); have N2 : Hid (NewO w8 none O2) := Lib.hid (hN.out.trans hnn (Nat.le_trans R1.out.size KI2.out.size)); have S2x := Lib.hid (S6.out.kept R2.out); have hn2 : (l ++ [y]).length = n + 1 := (by rw [List.length_append, hn]; rfl); have x12 := cell_blk S2x.out.hx 1 _ (wrC_1 x); have s42 := cell_blk S2x.out.hd 4 _ dv4; have r02 := intAt S2x.out.rd.rd HY.out; clear hown hkk hnn))
        go_roundw
        case rel => exact ⟨k + 1, a2x, n + 1, cap2x, O2, l ++ [y], b, by omega, by go_num, rfl, rfl, hn2, HS2, OW2, N2, R2⟩
        case measure => simp [intOf]; omega
    · obtain rfl : k = d.done.length := by omega
      have g1 := decide_eq_false (show ¬ ((d.done.length : Nat) : Int) < d.done.length by omega)
      have g2 := decide_eq_false (show ¬ d.done.length < d.done.length by omega)
      have HL : Hid (endN x.seq (l, b) = insI x.seq d.done) := Lib.hid (by have h9 := stepN_ins (n := x.seq) d.done []; rw [List.nil_append] at h9; rw [← h9, ← hF.out, List.take_length])
      have x1 := cell_blk SK.out.hx 1 _ (wrC_1 x)
      have s4 := cell_blk SK.out.hd 4 _ dv4
      have o4 := free_blk SK.out.hd 4
      cases b with
      | true =>
        have HL2 : Hid (l = insI x.seq d.done) := Lib.hid (by have := HL.out; unfold endN at this; simpa using this)
        have HIN : (insI x.seq d.done).length = n := HL2.out ▸ hn
        have QR : Hid (RdS wr (BX M w.heap.size (w.heap.size + 1) w1.heap.size w75.heap.size) 1 EInt (.slice a1 (n) cap1) (insI x.seq d.done)) := Lib.hid (HL2.out ▸ S6.out.rdn HM.out hO.out (newO_le hN.out))
        have S11 : Hid (BxSt w M x w.heap.size (w.heap.size + 1) w1.heap.size w75.heap.size (wr.setCell ⟨w.heap.size, 4, none⟩ (.slice a1 (n) cap1)) ({ d with queue := d.queue.eraseIdx kn, table := (putT d.table d.room x), done := insI x.seq d.done } : Dev) 0 a7 a4 a1 la cap7 cap4 cap1 lc) := Lib.hid (SK.out.set 4 _ (by simp [devC, HIN]) ⟨SK.out.rd.rt, SK.out.rd.rq, RdS.len HIN.symm QR.out, SK.out.rd.rl⟩)
        clear HIN
        go_wp2_with (first
              | (refine wpList_load_big bigDev rfl _ rfl w.heap.size 0 (devC ({ d with queue := d.queue.eraseIdx kn, table := (putT d.table d.room x), done := insI x.seq d.done } : Dev) a7 cap7 a4 cap4 a1 cap1 la lc) rfl (range_blk (by first | exact S12.out.hd | exact S11.out.hd)) rfl ?_)
              | (refine wpList_load_big bigWr rfl _ rfl w1.heap.size 0 (wrC x) rfl (range_blk S11.out.hx) rfl ?_)
              | (go_at_call 59; refine (rearly_ok ({ d with queue := d.queue.eraseIdx kn, table := (putT d.table d.room x), done := insI x.seq d.done } : Dev) x a7 a4 a1 la cap7 cap4 cap1 lc _).mono ?_; rw [HE.out]; rintro e w12 ⟨rfl, k4⟩; have S12 := Lib.hid (S11.out.kept k4); clear k4))
        refine wp_region_par 4 [] [] [] [] [] (fun wx => CF w12 (w.heap.size + 1) wx)
              [fun v _ => v = .agg (devC ({ d with queue := d.queue.eraseIdx kn, table := (putT d.table d.room x), done := insI x.seq d.done } : Dev) a7 cap7 a4 cap4 a1 cap1 la lc), fun v _ => v = .agg (akC x 0), fun v wx => ∃ b, (v = .slice (some ⟨b, 0, none⟩) 1 1 ∧ w12.heap.size ≤ b) ∧ wx.heap[b]? = some (.cells (akC x 0) 60 (0, 0)), fun _ wx => wx.heap[w.heap.size + 1]? = some (.cells (devC ({ d with queue := d.queue.eraseIdx kn, table := (putT d.table d.room x), done := insI x.seq d.done } : Dev) a7 cap7 a4 cap4 a1 cap1 la lc) 27 (0, 0))] (by kernel_rfl) (by kernel_rfl) (by kernel_rfl) (CF.refl rfl S12.out.hz).drew (inits_nil) ?_ ?_
        · intro i hi9
          have hst := stab_all (posts := [fun v _ => v = .agg (devC ({ d with queue := d.queue.eraseIdx kn, table := (putT d.table d.room x), done := insI x.seq d.done } : Dev) a7 cap7 a4 cap4 a1 cap1 la lc), fun v _ => v = .agg (akC x 0), fun v wx => ∃ b, (v = .slice (some ⟨b, 0, none⟩) 1 1 ∧ w12.heap.size ≤ b) ∧ wx.heap[b]? = some (.cells (akC x 0) 60 (0, 0)), fun _ wx => wx.heap[w.heap.size + 1]? = some (.cells (devC ({ d with queue := d.queue.eraseIdx kn, table := (putT d.table d.room x), done := insI x.seq d.done } : Dev) a7 cap7 a4 cap4 a1 cap1 la lc) 27 (0, 0))])        (stab_cons (stab_const _) (stab_cons (stab_const _) (stab_cons (stab_blk (fun b v => v = .slice (some ⟨b, 0, none⟩) 1 1 ∧ w12.heap.size ≤ b) (fun b => b) (fun b => .cells (akC x 0) 60 (0, 0))) (stab_cons (fun _ _ _ k h => k.blk h (fun x => x)) stab_nil))))
          have hist := init_stab (inits := []) (fun p h => by cases h)
          have HST := Lib.hid hst
          have HIST := Lib.hid hist
          clear hst hist
          rcases (show i = 0 ∨ i = 1 ∨ i = 2 ∨ i = 3 by omega) with rfl | rfl | rfl | rfl
          · refine asks_intro ?_; intro o ho a wx hc hout hp hi R hR; cases ho
            have e2 : a.tmps[2]? = some (.pointer (some ⟨w.heap.size, 0, none⟩)) := hout 2 rfl
            refine gives_load_big bigDev (.tmp 2) rfl w.heap.size 0 (devC ({ d with queue := d.queue.eraseIdx kn, table := (putT d.table d.room x), done := insI x.seq d.done } : Dev) a7 cap7 a4 cap4 a1 cap1 la lc) (by go_simp) (range_blk (hc.blk S12.out.hd (by have h := S12.out.ne; omega))) rfl ?_
            exact hR _ _ hc rfl (fun _ _ _ _ _ u h => h) (fun _ _ h => h)
          · refine asks_intro ?_; intro o ho a wx hc hout hp hi R hR; cases ho
            have e10 : a.tmps[10]? = some (.pointer (some ⟨w75.heap.size, 0, none⟩)) := hout 10 rfl
            refine gives_load_big bigAk (.tmp 10) rfl w75.heap.size 0 (akC x 0) (by go_simp) (range_blk (hc.blk S12.out.ha (by have h := S12.out.ne; omega))) rfl ?_
            exact hR _ _ hc rfl (fun _ _ _ _ _ u h => h) (fun _ _ h => h)
          · refine asks_intro ?_; intro o ho a wx hc hout hp hi R hR; cases ho
            have e118 : a.tmps[118]?.getD undef = .agg (akC x 0) := hp 1 (by omega) rfl
            go_simp
            exact hR _ _ (hc.alloc _) ⟨_, ⟨rfl, hc.1.size⟩, blk_new _ _⟩ (fun j _ _ _ _ u h => HST.out j u _ _ ((Kept.refl _ _).alloc _) h) (fun j _ h => HIST.out j _ _ ((Kept.refl _ _).alloc _) h)
          · refine asks_intro ?_; intro o ho a wx hc hout hp hi R hR; cases ho
            have e117 : a.tmps[117]?.getD undef = .agg (devC ({ d with queue := d.queue.eraseIdx kn, table := (putT d.table d.room x), done := insI x.seq d.done } : Dev) a7 cap7 a4 cap4 a1 cap1 la lc) := hp 0 (by omega) rfl
            have e4 : a.tmps[4]? = some (.pointer (some ⟨w.heap.size + 1, 0, none⟩)) := hout 4 rfl
            obtain ⟨hck, z9, hz7, hz9⟩ := hc
            refine gives_store_bigb (cs := devC ({ d with queue := d.queue.eraseIdx kn, table := (putT d.table d.room x), done := insI x.seq d.done } : Dev) a7 cap7 a4 cap4 a1 cap1 la lc) bigDev (.tmp 4) (.tmp 117) rfl (w.heap.size + 1) (by go_simp) (by go_simp) hz9 hz7 rfl (dev1 _ _ _ _ _ _ _ _ _) ?_
            refine hR _ _ (CF.put ⟨hck, z9, hz7, hz9⟩ _ rfl) (putB_blk _ _ _ _ (lt_of_block hz9)) (fun j hj hne hcn hwf u h => ?_) (fun q hq h => ?_)
            · rcases (show j = 0 ∨ j = 1 ∨ j = 2 ∨ j = 3 by omega) with rfl | rfl | rfl | rfl <;> first | exact h | exact absurd hcn (by decide) | exact absurd rfl hne | (obtain ⟨b, ⟨q1, q2⟩, q3⟩ := h; have q2 : w12.heap.size ≤ b := q2; have hz9 := S12.out.bxlt HM.out _ (.inr (.inr (.inl rfl))); exact ⟨b, ⟨q1, q2⟩, (putB_blk_ne _ _ _ _ _ (by omega)).trans q3⟩)
            · trivial
        · intro vs w' hc hp
          have e117 : vs 0 = .agg (devC ({ d with queue := d.queue.eraseIdx kn, table := (putT d.table d.room x), done := insI x.seq d.done } : Dev) a7 cap7 a4 cap4 a1 cap1 la lc) := hp 0 (by omega) rfl
          have e118 : vs 1 = .agg (akC x 0) := hp 1 (by omega) rfl
          obtain ⟨b, e119, hb119⟩ : ∃ b, (vs 2 = .slice (some ⟨b, 0, none⟩) 1 1 ∧ w12.heap.size ≤ b) ∧ w'.heap[b]? = some (.cells (akC x 0) 60 (0, 0)) := hp 2 (by omega) rfl
          obtain ⟨_, hbg3⟩ : ∃ _ : Value, w'.heap[w.heap.size + 1]? = some (.cells (devC ({ d with queue := d.queue.eraseIdx kn, table := (putT d.table d.room x), done := insI x.seq d.done } : Dev) a7 cap7 a4 cap4 a1 cap1 la lc) 27 (0, 0)) := hp 3 (by omega) rfl
          simp only [List.take_succ_cons, List.take_zero, List.drop_succ_cons, List.drop_zero, putAll, Act.put, List.setIfInBounds_toArray, List.set_cons_zero, List.set_cons_succ, Nat.reduceAdd, e117, e118]
          obtain ⟨e119, hsb⟩ := e119
          rw [e119]
          change wpList _ _ _ _ _ _
          have HB4 := Lib.hid hbg3
          have HAK := Lib.hid hb119
          have HC9 := Lib.hid hc
          clear hbg3 hb119 hc hp
          go_wp2_with fail
          have hl0 : _root_.Go.World.cell? _ ⟨w.heap.size + 1, 0, none⟩ = _ := cell_blk HB4.out 0 _ dv0
          have hl1 : _root_.Go.World.cell? _ ⟨w.heap.size + 1, 1, none⟩ = _ := cell_blk HB4.out 1 _ dv1
          have hl2 : _root_.Go.World.cell? _ ⟨w.heap.size + 1, 2, none⟩ = _ := cell_blk HB4.out 2 _ dv2
          have hl3 : _root_.Go.World.cell? _ ⟨w.heap.size + 1, 3, none⟩ = _ := cell_blk HB4.out 3 _ dv3
          have hl4 : _root_.Go.World.cell? _ ⟨w.heap.size + 1, 4, none⟩ = _ := cell_blk HB4.out 4 _ dv4
          have hl5 : _root_.Go.World.cell? _ ⟨w.heap.size + 1, 5, none⟩ = _ := cell_blk HB4.out 5 _ dv5
          have hl6 : _root_.Go.World.cell? _ ⟨w.heap.size + 1, 6, none⟩ = _ := cell_blk HB4.out 6 _ dv6
          refine bodyPost_ret (v := .tuple #[.agg (devC ({ d with queue := d.queue.eraseIdx kn, table := (putT d.table d.room x), done := insI x.seq d.done } : Dev) a7 cap7 a4 cap4 a1 cap1 la lc), .slice (some ⟨b, 0, none⟩) 1 1, .int .i64 0]) (by simp [results, Try.results19, go_sem, devC, devZC, dev0, hl0, hl1, hl2, hl3, hl4, hl5, hl6]) rfl ?_
          have FD := S12.out.dev HC9.out.1
          exact ⟨_, _, rfl, FD.1, acks_one (a := ⟨x.ep, x.seq, 0⟩) HAK.out HM.out (by have := S12.out.kp.size; omega), FD.2⟩
      | false =>
        have HL2 : Hid (l ++ [x.seq] = insI x.seq d.done) := Lib.hid (by have := HL.out; unfold endN at this; simpa using this)
        have HR1 := Lib.hid (rd_one (M := NoM) (sz := 1) (E := EInt) (x := x.seq) (blk_new wr (.cells #[.int .i64 x.seq] 3)) (fun x => x) rfl rfl)
        have KI1 := Lib.hid ((Kept.refl NoM wr).alloc (.cells #[.int .i64 x.seq] 3))
        have OA1 := Lib.hid (hO.out.kept KI1.out (fun _ _ x => x) (fun _ _ x => x))
        go_wp2_with (first | (at_builtin; refine wpList_append_S (M := NoM) rfl (.tmp 105) (.tmp 108) 25 rfl 8 tyInts _ rfl OA1.out _ rfl HR1.out eInt_one (n) 1 hn rfl (by unfold maxLen; omega) (by omega) ?_; intro a1x cap1x w1x O1 hown hkk hnn; have OW1 := Lib.hid hown; have KA1 : Hid (Kept (fun k => some k = O) wr w1x) := Lib.hid (KI1.out.of_no.trans hkk); have R1 : Hid (Kept NoM w8 w1x) := Lib.hid (hK.out.trans' KA1.out (fun i hi e => newO_no hN.out i hi e)); have N1 : Hid (NewO w8 none O1) := Lib.hid (hN.out.trans hnn (Nat.le_trans hK.out.size KI1.out.size)); have S1x := Lib.hid (S6.out.kept R1.out); have hn1 : (l ++ [x.seq]).length = n + 1 := (by rw [List.length_append, hn]; rfl); have x11 := cell_blk S1x.out.hx 1 _ (wrC_1 x); have s41 := cell_blk S1x.out.hd 4 _ dv4; have o41 := free_blk S1x.out.hd 4; have HIN : (insI x.seq d.done).length = n + 1 := HL2.out ▸ hn1; have QR : Hid (RdS w1x (BX M w.heap.size (w.heap.size + 1) w1.heap.size w75.heap.size) 1 EInt (.slice a1x (n + 1) cap1x) (insI x.seq d.done)) := Lib.hid (HL2.out ▸ S6.out.rdn HM.out OW1.out (newO_le N1.out)); have S11 : Hid (BxSt w M x w.heap.size (w.heap.size + 1) w1.heap.size w75.heap.size (w1x.setCell ⟨w.heap.size, 4, none⟩ (.slice a1x (n + 1) cap1x)) ({ d with queue := d.queue.eraseIdx kn, table := (putT d.table d.room x), done := insI x.seq d.done } : Dev) 0 a7 a4 a1x la cap7 cap4 cap1x lc) := Lib.hid (S1x.out.set 4 _ (by simp [devC, HIN]) ⟨S1x.out.rd.rt, S1x.out.rd.rq, RdS.len HIN.symm QR.out, S1x.out.rd.rl⟩); clear HIN; clear hown hkk hnn) | (refine wpList_load_big bigDev rfl _ rfl w.heap.size 0 (devC ({ d with queue := d.queue.eraseIdx kn, table := (putT d.table d.room x), done := insI x.seq d.done } : Dev) a7 cap7 a4 cap4 a1x cap1x la lc) rfl (range_blk (by first | exact S12.out.hd | exact S11.out.hd)) rfl ?_) | (refine wpList_load_big bigWr rfl _ rfl w1.heap.size 0 (wrC x) rfl (range_blk S11.out.hx) rfl ?_) | (go_at_call 59; refine (rearly_ok ({ d with queue := d.queue.eraseIdx kn, table := (putT d.table d.room x), done := insI x.seq d.done } : Dev) x a7 a4 a1x la cap7 cap4 cap1x lc _).mono ?_; rw [HE.out]; rintro e w12 ⟨rfl, k4⟩; have S12 := Lib.hid (S11.out.kept k4); clear k4))
        refine wp_region_par 4 [] [] [] [] [] (fun wx => CF w12 (w.heap.size + 1) wx)
              [fun v _ => v = .agg (devC ({ d with queue := d.queue.eraseIdx kn, table := (putT d.table d.room x), done := insI x.seq d.done } : Dev) a7 cap7 a4 cap4 a1x cap1x la lc), fun v _ => v = .agg (akC x 0), fun v wx => ∃ b, (v = .slice (some ⟨b, 0, none⟩) 1 1 ∧ w12.heap.size ≤ b) ∧ wx.heap[b]? = some (.cells (akC x 0) 60 (0, 0)), fun _ wx => wx.heap[w.heap.size + 1]? = some (.cells (devC ({ d with queue := d.queue.eraseIdx kn, table := (putT d.table d.room x), done := insI x.seq d.done } : Dev) a7 cap7 a4 cap4 a1x cap1x la lc) 27 (0, 0))] (by kernel_rfl) (by kernel_rfl) (by kernel_rfl) (CF.refl rfl S12.out.hz).drew (inits_nil) ?_ ?_
        · intro i hi9
          have hst := stab_all (posts := [fun v _ => v = .agg (devC ({ d with queue := d.queue.eraseIdx kn, table := (putT d.table d.room x), done := insI x.seq d.done } : Dev) a7 cap7 a4 cap4 a1x cap1x la lc), fun v _ => v = .agg (akC x 0), fun v wx => ∃ b, (v = .slice (some ⟨b, 0, none⟩) 1 1 ∧ w12.heap.size ≤ b) ∧ wx.heap[b]? = some (.cells (akC x 0) 60 (0, 0)), fun _ wx => wx.heap[w.heap.size + 1]? = some (.cells (devC ({ d with queue := d.queue.eraseIdx kn, table := (putT d.table d.room x), done := insI x.seq d.done } : Dev) a7 cap7 a4 cap4 a1x cap1x la lc) 27 (0, 0))])        (stab_cons (stab_const _) (stab_cons (stab_const _) (stab_cons (stab_blk (fun b v => v = .slice (some ⟨b, 0, none⟩) 1 1 ∧ w12.heap.size ≤ b) (fun b => b) (fun b => .cells (akC x 0) 60 (0, 0))) (stab_cons (fun _ _ _ k h => k.blk h (fun x => x)) stab_nil))))
          have hist := init_stab (inits := []) (fun p h => by cases h)
          have HST := Lib.hid hst
          have HIST := Lib.hid hist
          clear hst hist
          rcases (show i = 0 ∨ i = 1 ∨ i = 2 ∨ i = 3 by omega) with rfl | rfl | rfl | rfl
          · refine asks_intro ?_; intro o ho a wx hc hout hp hi R hR; cases ho
            have e2 : a.tmps[2]? = some (.pointer (some ⟨w.heap.size, 0, none⟩)) := hout 2 rfl
            refine gives_load_big bigDev (.tmp 2) rfl w.heap.size 0 (devC ({ d with queue := d.queue.eraseIdx kn, table := (putT d.table d.room x), done := insI x.seq d.done } : Dev) a7 cap7 a4 cap4 a1x cap1x la lc) (by go_simp) (range_blk (hc.blk S12.out.hd (by have h := S12.out.ne; omega))) rfl ?_
            exact hR _ _ hc rfl (fun _ _ _ _ _ u h => h) (fun _ _ h => h)
          · refine asks_intro ?_; intro o ho a wx hc hout hp hi R hR; cases ho
            have e10 : a.tmps[10]? = some (.pointer (some ⟨w75.heap.size, 0, none⟩)) := hout 10 rfl
            refine gives_load_big bigAk (.tmp 10) rfl w75.heap.size 0 (akC x 0) (by go_simp) (range_blk (hc.blk S12.out.ha (by have h := S12.out.ne; omega))) rfl ?_
            exact hR _ _ hc rfl (fun _ _ _ _ _ u h => h) (fun _ _ h => h)
          · refine asks_intro ?_; intro o ho a wx hc hout hp hi R hR; cases ho
            have e118 : a.tmps[118]?.getD undef = .agg (akC x 0) := hp 1 (by omega) rfl
            go_simp
            exact hR _ _ (hc.alloc _) ⟨_, ⟨rfl, hc.1.size⟩, blk_new _ _⟩ (fun j _ _ _ _ u h => HST.out j u _ _ ((Kept.refl _ _).alloc _) h) (fun j _ h => HIST.out j _ _ ((Kept.refl _ _).alloc _) h)
          · refine asks_intro ?_; intro o ho a wx hc hout hp hi R hR; cases ho
            have e117 : a.tmps[117]?.getD undef = .agg (devC ({ d with queue := d.queue.eraseIdx kn, table := (putT d.table d.room x), done := insI x.seq d.done } : Dev) a7 cap7 a4 cap4 a1x cap1x la lc) := hp 0 (by omega) rfl
            have e4 : a.tmps[4]? = some (.pointer (some ⟨w.heap.size + 1, 0, none⟩)) := hout 4 rfl
            obtain ⟨hck, z9, hz7, hz9⟩ := hc
            refine gives_store_bigb (cs := devC ({ d with queue := d.queue.eraseIdx kn, table := (putT d.table d.room x), done := insI x.seq d.done } : Dev) a7 cap7 a4 cap4 a1x cap1x la lc) bigDev (.tmp 4) (.tmp 117) rfl (w.heap.size + 1) (by go_simp) (by go_simp) hz9 hz7 rfl (dev1 _ _ _ _ _ _ _ _ _) ?_
            refine hR _ _ (CF.put ⟨hck, z9, hz7, hz9⟩ _ rfl) (putB_blk _ _ _ _ (lt_of_block hz9)) (fun j hj hne hcn hwf u h => ?_) (fun q hq h => ?_)
            · rcases (show j = 0 ∨ j = 1 ∨ j = 2 ∨ j = 3 by omega) with rfl | rfl | rfl | rfl <;> first | exact h | exact absurd hcn (by decide) | exact absurd rfl hne | (obtain ⟨b, ⟨q1, q2⟩, q3⟩ := h; have q2 : w12.heap.size ≤ b := q2; have hz9 := S12.out.bxlt HM.out _ (.inr (.inr (.inl rfl))); exact ⟨b, ⟨q1, q2⟩, (putB_blk_ne _ _ _ _ _ (by omega)).trans q3⟩)
            · trivial
        · intro vs w' hc hp
          have e117 : vs 0 = .agg (devC ({ d with queue := d.queue.eraseIdx kn, table := (putT d.table d.room x), done := insI x.seq d.done } : Dev) a7 cap7 a4 cap4 a1x cap1x la lc) := hp 0 (by omega) rfl
          have e118 : vs 1 = .agg (akC x 0) := hp 1 (by omega) rfl
          obtain ⟨b, e119, hb119⟩ : ∃ b, (vs 2 = .slice (some ⟨b, 0, none⟩) 1 1 ∧ w12.heap.size ≤ b) ∧ w'.heap[b]? = some (.cells (akC x 0) 60 (0, 0)) := hp 2 (by omega) rfl
          obtain ⟨_, hbg3⟩ : ∃ _ : Value, w'.heap[w.heap.size + 1]? = some (.cells (devC ({ d with queue := d.queue.eraseIdx kn, table := (putT d.table d.room x), done := insI x.seq d.done } : Dev) a7 cap7 a4 cap4 a1x cap1x la lc) 27 (0, 0)) := hp 3 (by omega) rfl
          simp only [List.take_succ_cons, List.take_zero, List.drop_succ_cons, List.drop_zero, putAll, Act.put, List.setIfInBounds_toArray, List.set_cons_zero, List.set_cons_succ, Nat.reduceAdd, e117, e118]
          obtain ⟨e119, hsb⟩ := e119
          rw [e119]
          change wpList _ _ _ _ _ _
          have HB4 := Lib.hid hbg3
          have HAK := Lib.hid hb119
          have HC9 := Lib.hid hc
          clear hbg3 hb119 hc hp
          go_wp2_with fail
          have hl0 : _root_.Go.World.cell? _ ⟨w.heap.size + 1, 0, none⟩ = _ := cell_blk HB4.out 0 _ dv0
          have hl1 : _root_.Go.World.cell? _ ⟨w.heap.size + 1, 1, none⟩ = _ := cell_blk HB4.out 1 _ dv1
          have hl2 : _root_.Go.World.cell? _ ⟨w.heap.size + 1, 2, none⟩ = _ := cell_blk HB4.out 2 _ dv2
          have hl3 : _root_.Go.World.cell? _ ⟨w.heap.size + 1, 3, none⟩ = _ := cell_blk HB4.out 3 _ dv3
          have hl4 : _root_.Go.World.cell? _ ⟨w.heap.size + 1, 4, none⟩ = _ := cell_blk HB4.out 4 _ dv4
          have hl5 : _root_.Go.World.cell? _ ⟨w.heap.size + 1, 5, none⟩ = _ := cell_blk HB4.out 5 _ dv5
          have hl6 : _root_.Go.World.cell? _ ⟨w.heap.size + 1, 6, none⟩ = _ := cell_blk HB4.out 6 _ dv6
          refine bodyPost_ret (v := .tuple #[.agg (devC ({ d with queue := d.queue.eraseIdx kn, table := (putT d.table d.room x), done := insI x.seq d.done } : Dev) a7 cap7 a4 cap4 a1x cap1x la lc), .slice (some ⟨b, 0, none⟩) 1 1, .int .i64 0]) (by simp [results, Try.results19, go_sem, devC, devZC, dev0, hl0, hl1, hl2, hl3, hl4, hl5, hl6]) rfl ?_
          have FD := S12.out.dev HC9.out.1
          exact ⟨_, _, rfl, FD.1, acks_one (a := ⟨x.ep, x.seq, 0⟩) HAK.out HM.out (by have := S12.out.kp.size; omega), FD.2⟩
end Go.Proofs.Ytghgegghlefclaa

/- Walks: Do of the specification. -/
namespace Go.Proofs.Ytghgegghlefclaa
open Go.RowKit
set_option maxHeartbeats 4000000
set_option maxRecDepth 8000
theorem rdo_f2 (d : Dev) (kn : Nat) (x : Wr) (ta qa da la : Option Addr) (tc qc dc lc : Nat) (M : Nat → Prop) (w : World) (h : DevR w M d ta tc qa qc da dc la lc) (hM : ∀ i, M i → i < w.heap.size) (hk : d.queue[kn]? = some x) (hr : rdyB d.queue kn = true)
    (hql : d.queue.length ≤ 1000) (htl : d.table.length ≤ 1000) (hdl : d.done.length ≤ 1000) (hll : d.lost.length ≤ 1000) (hdt : DecT d.table) (hlo : hasI d.lost x.seq = false) (hpk : putOk d.table d.room x = false) (he : earlyW d x = false) :
    Calls Try.prog 19 #[.agg (devC d ta tc qa qc da dc la lc), .int .i64 kn] w (DoPost M w ({ d with queue := d.queue.eraseIdx kn, table := (putT d.table d.room x) }) ([⟨x.ep, x.seq, 12⟩])) := by
  obtain ⟨qb, qo, rfl, _, hc0⟩ := wr_at h.rq hk
  have hkl := (List.getElem?_eq_some_iff.1 hk).1
  have hki : (kn : Int) < d.queue.length := by omega
  have KB := Lib.hid (((Kept.refl NoM w).alloc (.cells (devC d ta tc (some ⟨qb, qo, none⟩) qc da dc la lc) 27)).alloc (.cells devZC 27))
  have B0 := Lib.hid (blk_old (blk_new w (.cells (devC d ta tc (some ⟨qb, qo, none⟩) qc da dc la lc) 27)) (.cells devZC 27))
  have B4 := Lib.hid (blk_new' (w.alloc (.cells (devC d ta tc (some ⟨qb, qo, none⟩) qc da dc la lc) 27)) (.cells devZC 27) (w.heap.size + 1) (by simp))
  have y3 := cell_blk B0.out 3 _ dv3
  have f0 := decide_eq_false (show ¬ (kn : Int) < 0 by omega)
  have f1 := decide_eq_false (show ¬ (d.queue.length : Int) ≤ (kn : Int) by omega)
  have f2 := decide_eq_false (show ¬ d.queue.length ≤ kn by omega)
  have RD := Lib.hid (rready1_ok d ta (some ⟨qb, qo, none⟩) da la tc qc dc lc M _ (h.rq.kept KB.out.of_no (fun _ _ x => x)) (by omega) kn hkl)
  rw [hr] at RD
  obtain ⟨ti, hti, htz⟩ := info_of (P := Try.prog) (e := 41) (n := 26) (by kernel_rfl)
  obtain ⟨sa, sc, hs1, hr1⟩ := RdS.slice (P := Try.prog) 24 41 ti Try.underlying24 hti htz h.rq 0 kn (Nat.zero_le _) (Nat.le_of_lt hkl) none (.inr ⟨rfl, rfl⟩)
  obtain ⟨sb, sd, hs2, hr2⟩ := RdS.sliceFrom (P := Try.prog) 24 41 ti Try.underlying24 hti htz h.rq (kn + 1) hkl
  have hs2 : ∀ wx, (Instr.slice 24 (.slice (some ⟨qb, qo, none⟩) d.queue.length qc) (some (.int .i64 ((kn : Int) + 1))) none none).run Try.prog wx = .ok (.slice sb (d.queue.length - (kn + 1)) sd) wx := hs2
  rw [Nat.sub_zero] at hr1
  simp only [Nat.sub_zero] at hs1
  rw [List.drop_zero] at hr1
  have HR1 := Lib.hid hr1
  have HR2 := Lib.hid hr2
  have HC0 := Lib.hid (rangeAt_kept (M := NoM) hc0 (Kept.refl _ _) (fun x => x))
  have HH := Lib.hid h
  have HM := Lib.hid hM
  have hw1 : IntKind.i64.wrap ((kn : Int) + 1) = (kn : Int) + 1 := IntWalk.i64_in _ (by omega)
  have HLE := Lib.hid (cut_len hkl)
  have HQL := Lib.hid (show d.queue.length ≤ 1000000 by omega)
  have HTK : Hid ((d.queue.take kn).length = kn) := Lib.hid (by rw [List.length_take]; omega)
  have HDP : Hid ((d.queue.drop (kn + 1)).length = d.queue.length - (kn + 1)) := Lib.hid (by rw [List.length_drop])
  have HDT := Lib.hid hdt
  clear h hM hc0 hr hr1 hr2 hdt
  have HLO := Lib.hid hlo
  have HPK := Lib.hid hpk
  have HE := Lib.hid (show earlyW ({ d with queue := d.queue.eraseIdx kn, table := (putT d.table d.room x) } : Dev) x = false from he)
  clear hlo he hpk
  go_enter Try.func19, Try.ntmps19
  go_wp2_with (first
      | (refine wpList_alloc_Z rfl 27 rfl _ (devZ _) ?_)
      | (refine wpList_alloc_Z rfl 41 rfl _ (wrZ _) ?_)
      | (refine wpList_load_bigG bigDev (by rfl) _ rfl w.heap.size 0 (devC d ta tc (some ⟨qb, qo, none⟩) qc da dc la lc) rfl (range_blk B0.out) rfl ?_)
      | (refine wpList_load_big bigWr rfl _ rfl qb (qo + kn * 26) (wrC x) rfl HC1.out rfl ?_)
      | (go_at_call 60; refine RD.out.mono ?_; rintro e w1 ⟨rfl, k1⟩; have K1 := Lib.hid (KB.out.trans k1); have C0 := Lib.hid (k1.blk B0.out (fun x => x)); have C4 := Lib.hid (k1.blk B4.out (fun x => x)); have HC1 := Lib.hid (rangeAt_kept HC0.out K1.out (fun x => x)); have t3 := cell_blk C0.out 3 _ dv3; have hz1 := lt_of_block C4.out; clear k1 RD)
      | (refine wpList_store_bign bigWr rfl _ _ rfl _ rfl rfl rfl rfl rfl (wr1 x) ?_; have K2 := Lib.hid (K1.out.alloc (.cells (wrC x) 41)); have S2 := Lib.hid (show BxQ w M x w.heap.size (w.heap.size + 1) w1.heap.size (w1.alloc (.cells (wrC x) 41)) d ta (some ⟨qb, qo, none⟩) da la tc qc dc lc from ⟨blk_old C0.out _, blk_old C4.out _, blk_new _ _, (HH.out.mono (fun i hi q => by rcases q with q | q | q | q | q; exact q; all_goals omega)).kept (K1.out.alloc _).of_no, K1.out.alloc _, ⟨by omega, by omega, by omega⟩, ⟨by omega, by omega, by omega⟩⟩); have RT := Lib.hid (HR1.out.kept K2.out.of_no (fun _ _ x => x)); generalize (w1.alloc (.cells (wrC x) 41)) = w2 at *; have s3 := cell_blk S2.out.hd 3 _ dv3; clear t3)
      | (at_builtin; refine wpList_append_S (M := M) rfl (.tmp 35) (.tmp 39) 24 rfl 224 tyWrites _ rfl (OwnS.nil w2 _ _ _) _ rfl RT.out eWr_one 0 kn rfl HTK.out (by unfold maxLen; have := HQL.out; omega) (by omega) ?_; rw [Nat.zero_add, List.nil_append]; intro a3 cap3 w3 O3 hown hkk hnn; have k23 : Kept NoM w2 w3 := hkk.mono (fun i _ q => by cases q); have S3 := Lib.hid (S2.out.kept k23); have OW3 := Lib.hid hown; have N3 := Lib.hid hnn; have RD3 := Lib.hid ((HR2.out.kept K2.out.of_no (fun _ _ x => x)).kept k23.of_no (fun _ _ x => x)); have t3 := cell_blk S3.out.hd 3 _ dv3; have K23 := Lib.hid k23; clear hown hkk hnn k23 s3)
      | (at_builtin; refine wpList_append_S (M := M) rfl (.tmp 41) (.tmp 46) 24 rfl 224 tyWrites _ rfl OW3.out _ rfl RD3.out eWr_one kn (d.queue.length - (kn + 1)) HTK.out HDP.out (by unfold maxLen; have := HQL.out; omega) (by have := HQL.out; omega) ?_; rw [HLE.out, ← List.eraseIdx_eq_take_drop_succ]; intro a4 cap4 w4 O4 hown hkk hnn; have S4 := Lib.hid (S2.out.kept (K23.out.trans' hkk (fun i hi e => newO_no N3.out i hi e))); have QR : Hid (RdS w4 (BX M w.heap.size (w.heap.size + 1) w1.heap.size w1.heap.size) 26 EWr (.slice a4 (d.queue.eraseIdx kn).length cap4) (d.queue.eraseIdx kn)) := Lib.hid (S2.out.rdn HM.out hown (newO_le (N3.out.trans hnn K23.out.size))); have S5 : Hid (BxQ w M x w.heap.size (w.heap.size + 1) w1.heap.size (w4.setCell ⟨w.heap.size, 3, none⟩ (.slice a4 (d.queue.eraseIdx kn).length cap4)) ({ d with queue := d.queue.eraseIdx kn } : Dev) ta a4 da la tc cap4 dc lc) := Lib.hid (S4.out.set 3 _ (by simp [devC]) ⟨S4.out.rd.rt, QR.out, S4.out.rd.rd, S4.out.rd.rl⟩); have c3 := cell_blk S4.out.hd 3 _ dv3; have e3 := free_blk S4.out.hd 3; have c5 := cell_blk S4.out.hd 5 _ dv5; have u1 := cell_blk S4.out.hx 1 _ (wrC_1 x); clear hown hkk hnn))
  refine (rhas_ok _ d.lost (BX M w.heap.size (w.heap.size + 1) w1.heap.size w1.heap.size) x.seq _ S5.out.rd.rl (by omega)).mono ?_
  rw [HLO.out]
  rintro e wz ⟨rfl, rfl⟩
  clear hs1 hs2 t3 c3 e3 c5 u1 y3 B0 B4 KB C0 C4 HC0 HC1 HR1 HR2 RT RD3 S2 S3 S4 OW3 QR hw1 f0 f1 f2
  generalize (w4.setCell ⟨w.heap.size, 3, none⟩ (.slice a4 (d.queue.eraseIdx kn).length cap4)) = w6 at *
  have v0 := cell_blk S5.out.hx 0 _ (wrC_0 x)
  have v1 := cell_blk S5.out.hx 1 _ (wrC_1 x)
  have t2 := cell_blk S5.out.hd 2 _ dv2
  have t0 := cell_blk S5.out.hd 0 _ dv0
  go_wp2_with (first
      | (refine wpList_load_big bigWr rfl _ rfl w1.heap.size 0 (wrC x) rfl (range_blk S5.out.hx) rfl ?_)
      | (go_at_call 29; refine (rput_ok _ d.table (BX M w.heap.size (w.heap.size + 1) w1.heap.size w1.heap.size) d.room x w6 S5.out.rd.rt (S5.out.bxlt HM.out) HDT.out (by omega)).mono ?_; rw [HPK.out]; rintro e w7 ⟨a7, cap7, rfl, q1, q2⟩; have S7 := Lib.hid (S5.out.kept q2); have S8 : Hid (BxQ w M x w.heap.size (w.heap.size + 1) w1.heap.size (w7.setCell ⟨w.heap.size, 2, none⟩ (.slice a7 (putT d.table d.room x).length cap7)) ({ d with queue := d.queue.eraseIdx kn, table := (putT d.table d.room x) } : Dev) a7 a4 da la cap7 cap4 dc lc) := Lib.hid (S7.out.set 2 _ (by simp [devC]) ⟨q1, S7.out.rd.rq, S7.out.rd.rd, S7.out.rd.rl⟩); have y2 := cell_blk S7.out.hd 2 _ dv2; have z2 := free_blk S7.out.hd 2; have v07 := cell_blk S7.out.hx 0 _ (wrC_0 x); have v17 := cell_blk S7.out.hx 1 _ (wrC_1 x); clear q1 q2)
      | (refine wpList_alloc_Z rfl 60 rfl _ (akZ _) ?_; generalize w7.setCell ⟨w.heap.size, 2, none⟩ (.slice a7 (putT d.table d.room x).length cap7) = w75 at *)
      | (refine wpList_store_bign (cs := akC x 0) bigAk rfl _ _ rfl w75.heap.size rfl rfl rfl rfl rfl (ak1 x 0) ?_; have S6 := Lib.hid (S8.out.ack (A := w75.heap.size) rfl); unfold akC; generalize (w75.alloc (.cells #[.int .i64 x.ep, .int .i64 x.seq, .int .i64 0] 60)) = w8 at *; have e2 := cell_blk S6.out.ha 2 _ rfl; have f22 := free_blk S6.out.ha 2; have S11 := Lib.hid (S6.out.setE 12); go_wp2_with (first
      | (refine wpList_load_big bigDev rfl _ rfl w.heap.size 0 (devC ({ d with queue := d.queue.eraseIdx kn, table := (putT d.table d.room x) } : Dev) a7 cap7 a4 cap4 da dc la lc) rfl (range_blk (by first | exact S12.out.hd | exact S11.out.hd)) rfl ?_)
      | (refine wpList_load_big bigWr rfl _ rfl w1.heap.size 0 (wrC x) rfl (range_blk S11.out.hx) rfl ?_)
      | (go_at_call 59; refine (rearly_ok ({ d with queue := d.queue.eraseIdx kn, table := (putT d.table d.room x) } : Dev) x a7 a4 da la cap7 cap4 dc lc _).mono ?_; rw [HE.out]; rintro e w12 ⟨rfl, k4⟩; have S12 := Lib.hid (S11.out.kept k4); clear k4))))
  refine wp_region_par 4 [] [] [] [] [] (fun wx => CF w12 (w.heap.size + 1) wx)
        [fun v _ => v = .agg (devC ({ d with queue := d.queue.eraseIdx kn, table := (putT d.table d.room x) } : Dev) a7 cap7 a4 cap4 da dc la lc), fun v _ => v = .agg (akC x 12), fun v wx => ∃ b, (v = .slice (some ⟨b, 0, none⟩) 1 1 ∧ w12.heap.size ≤ b) ∧ wx.heap[b]? = some (.cells (akC x 12) 60 (0, 0)), fun _ wx => wx.heap[w.heap.size + 1]? = some (.cells (devC ({ d with queue := d.queue.eraseIdx kn, table := (putT d.table d.room x) } : Dev) a7 cap7 a4 cap4 da dc la lc) 27 (0, 0))] (by kernel_rfl) (by kernel_rfl) (by kernel_rfl) (CF.refl rfl S12.out.hz).drew (inits_nil) ?_ ?_
  · intro i hi9
    have hst := stab_all (posts := [fun v _ => v = .agg (devC ({ d with queue := d.queue.eraseIdx kn, table := (putT d.table d.room x) } : Dev) a7 cap7 a4 cap4 da dc la lc), fun v _ => v = .agg (akC x 12), fun v wx => ∃ b, (v = .slice (some ⟨b, 0, none⟩) 1 1 ∧ w12.heap.size ≤ b) ∧ wx.heap[b]? = some (.cells (akC x 12) 60 (0, 0)), fun _ wx => wx.heap[w.heap.size + 1]? = some (.cells (devC ({ d with queue := d.queue.eraseIdx kn, table := (putT d.table d.room x) } : Dev) a7 cap7 a4 cap4 da dc la lc) 27 (0, 0))])        (stab_cons (stab_const _) (stab_cons (stab_const _) (stab_cons (stab_blk (fun b v => v = .slice (some ⟨b, 0, none⟩) 1 1 ∧ w12.heap.size ≤ b) (fun b => b) (fun b => .cells (akC x 12) 60 (0, 0))) (stab_cons (fun _ _ _ k h => k.blk h (fun x => x)) stab_nil))))
    have hist := init_stab (inits := []) (fun p h => by cases h)
    have HST := Lib.hid hst
    have HIST := Lib.hid hist
    clear hst hist
    rcases (show i = 0 ∨ i = 1 ∨ i = 2 ∨ i = 3 by omega) with rfl | rfl | rfl | rfl
    · refine asks_intro ?_; intro o ho a wx hc hout hp hi R hR; cases ho
      have e2 : a.tmps[2]? = some (.pointer (some ⟨w.heap.size, 0, none⟩)) := hout 2 rfl
      refine gives_load_big bigDev (.tmp 2) rfl w.heap.size 0 (devC ({ d with queue := d.queue.eraseIdx kn, table := (putT d.table d.room x) } : Dev) a7 cap7 a4 cap4 da dc la lc) (by go_simp) (range_blk (hc.blk S12.out.hd (by have h := S12.out.ne; omega))) rfl ?_
      exact hR _ _ hc rfl (fun _ _ _ _ _ u h => h) (fun _ _ h => h)
    · refine asks_intro ?_; intro o ho a wx hc hout hp hi R hR; cases ho
      have e10 : a.tmps[10]? = some (.pointer (some ⟨w75.heap.size, 0, none⟩)) := hout 10 rfl
      refine gives_load_big bigAk (.tmp 10) rfl w75.heap.size 0 (akC x 12) (by go_simp) (range_blk (hc.blk S12.out.ha (by have h := S12.out.ne; omega))) rfl ?_
      exact hR _ _ hc rfl (fun _ _ _ _ _ u h => h) (fun _ _ h => h)
    · refine asks_intro ?_; intro o ho a wx hc hout hp hi R hR; cases ho
      have e118 : a.tmps[118]?.getD undef = .agg (akC x 12) := hp 1 (by omega) rfl
      go_simp
      exact hR _ _ (hc.alloc _) ⟨_, ⟨rfl, hc.1.size⟩, blk_new _ _⟩ (fun j _ _ _ _ u h => HST.out j u _ _ ((Kept.refl _ _).alloc _) h) (fun j _ h => HIST.out j _ _ ((Kept.refl _ _).alloc _) h)
    · refine asks_intro ?_; intro o ho a wx hc hout hp hi R hR; cases ho
      have e117 : a.tmps[117]?.getD undef = .agg (devC ({ d with queue := d.queue.eraseIdx kn, table := (putT d.table d.room x) } : Dev) a7 cap7 a4 cap4 da dc la lc) := hp 0 (by omega) rfl
      have e4 : a.tmps[4]? = some (.pointer (some ⟨w.heap.size + 1, 0, none⟩)) := hout 4 rfl
      obtain ⟨hck, z9, hz7, hz9⟩ := hc
      refine gives_store_bigb (cs := devC ({ d with queue := d.queue.eraseIdx kn, table := (putT d.table d.room x) } : Dev) a7 cap7 a4 cap4 da dc la lc) bigDev (.tmp 4) (.tmp 117) rfl (w.heap.size + 1) (by go_simp) (by go_simp) hz9 hz7 rfl (dev1 _ _ _ _ _ _ _ _ _) ?_
      refine hR _ _ (CF.put ⟨hck, z9, hz7, hz9⟩ _ rfl) (putB_blk _ _ _ _ (lt_of_block hz9)) (fun j hj hne hcn hwf u h => ?_) (fun q hq h => ?_)
      · rcases (show j = 0 ∨ j = 1 ∨ j = 2 ∨ j = 3 by omega) with rfl | rfl | rfl | rfl <;> first | exact h | exact absurd hcn (by decide) | exact absurd rfl hne | (obtain ⟨b, ⟨q1, q2⟩, q3⟩ := h; have q2 : w12.heap.size ≤ b := q2; have hz9 := S12.out.bxlt HM.out _ (.inr (.inr (.inl rfl))); exact ⟨b, ⟨q1, q2⟩, (putB_blk_ne _ _ _ _ _ (by omega)).trans q3⟩)
      · trivial
  · intro vs w' hc hp
    have e117 : vs 0 = .agg (devC ({ d with queue := d.queue.eraseIdx kn, table := (putT d.table d.room x) } : Dev) a7 cap7 a4 cap4 da dc la lc) := hp 0 (by omega) rfl
    have e118 : vs 1 = .agg (akC x 12) := hp 1 (by omega) rfl
    obtain ⟨b, e119, hb119⟩ : ∃ b, (vs 2 = .slice (some ⟨b, 0, none⟩) 1 1 ∧ w12.heap.size ≤ b) ∧ w'.heap[b]? = some (.cells (akC x 12) 60 (0, 0)) := hp 2 (by omega) rfl
    obtain ⟨_, hbg3⟩ : ∃ _ : Value, w'.heap[w.heap.size + 1]? = some (.cells (devC ({ d with queue := d.queue.eraseIdx kn, table := (putT d.table d.room x) } : Dev) a7 cap7 a4 cap4 da dc la lc) 27 (0, 0)) := hp 3 (by omega) rfl
    simp only [List.take_succ_cons, List.take_zero, List.drop_succ_cons, List.drop_zero, putAll, Act.put, List.setIfInBounds_toArray, List.set_cons_zero, List.set_cons_succ, Nat.reduceAdd, e117, e118]
    obtain ⟨e119, hsb⟩ := e119
    rw [e119]
    change wpList _ _ _ _ _ _
    have HB4 := Lib.hid hbg3
    have HAK := Lib.hid hb119
    have HC9 := Lib.hid hc
    clear hbg3 hb119 hc hp
    go_wp2_with fail
    have hl0 : _root_.Go.World.cell? _ ⟨w.heap.size + 1, 0, none⟩ = _ := cell_blk HB4.out 0 _ dv0
    have hl1 : _root_.Go.World.cell? _ ⟨w.heap.size + 1, 1, none⟩ = _ := cell_blk HB4.out 1 _ dv1
    have hl2 : _root_.Go.World.cell? _ ⟨w.heap.size + 1, 2, none⟩ = _ := cell_blk HB4.out 2 _ dv2
    have hl3 : _root_.Go.World.cell? _ ⟨w.heap.size + 1, 3, none⟩ = _ := cell_blk HB4.out 3 _ dv3
    have hl4 : _root_.Go.World.cell? _ ⟨w.heap.size + 1, 4, none⟩ = _ := cell_blk HB4.out 4 _ dv4
    have hl5 : _root_.Go.World.cell? _ ⟨w.heap.size + 1, 5, none⟩ = _ := cell_blk HB4.out 5 _ dv5
    have hl6 : _root_.Go.World.cell? _ ⟨w.heap.size + 1, 6, none⟩ = _ := cell_blk HB4.out 6 _ dv6
    refine bodyPost_ret (v := .tuple #[.agg (devC ({ d with queue := d.queue.eraseIdx kn, table := (putT d.table d.room x) } : Dev) a7 cap7 a4 cap4 da dc la lc), .slice (some ⟨b, 0, none⟩) 1 1, .int .i64 0]) (by simp [results, Try.results19, go_sem, devC, devZC, dev0, hl0, hl1, hl2, hl3, hl4, hl5, hl6]) rfl ?_
    have FD := S12.out.dev HC9.out.1
    exact ⟨_, _, rfl, FD.1, acks_one (a := ⟨x.ep, x.seq, 12⟩) HAK.out HM.out (by have := S12.out.kp.size; omega), FD.2⟩
end Go.Proofs.Ytghgegghlefclaa
