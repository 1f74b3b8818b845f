/- Walks: the law DeviceActsAsSpecified. -/
import Derived.Test.YtghgegghlefclaaKV17
import Derived.Test.YtghgegghlefclaaKW42
import Derived.Test.YtghgegghlefclaaKW43
import Derived.Test.YtghgegghlefclaaKW22
import Derived.Test.YtghgegghlefclaaKRP
set_option linter.unusedVariables false
set_option linter.unusedSimpArgs false
set_option linter.unusedSectionVars false
namespace Go.Proofs.Ytghgegghlefclaa
open Go.RowKit
set_option maxHeartbeats 4000000
set_option maxRecDepth 8000
theorem acts_ok (d : Dev) (x : Wr) (k : Int) (keep : Bool) (ta qa da la : Option Addr) (tc qc dc lc : Nat) (w : World) (h : DevR w NoM d ta tc qa qc da dc la lc) (hot : ∀ r ∈ d.table, OutR w r) (hoq : ∀ y ∈ d.queue, OutR w y.rule) (ht : d.table.length ≤ 9223372036854775807) (hq : d.queue.length ≤ 9223372036854775807) (hox : OutR w x.rule) (hkx : -9223372036854775808 ≤ x.kind ∧ x.kind ≤ 9223372036854775807) :
    Calls Try.prog 4 #[.agg (devC d ta tc qa qc da dc la lc), .agg (wrC x), .int .i64 k, .bool keep] w fun e w' => e = .returned (.bool true) ∧ Kept NoM w w' := by
  have HOX := Lib.hid hox
  have HKX := Lib.hid hkx
  have HH := Lib.hid h
  have HOT := Lib.hid hot
  have HOQ := Lib.hid hoq
  have HTQ := Lib.hid (And.intro ht hq)
  clear hox hkx h hot hoq ht hq
  have KW := Lib.hid (((Kept.refl NoM w).alloc (.cells (devC d ta tc qa qc da dc la lc) 27)).alloc (.cells (wrC x) 41))
  have HD := Lib.hid (blk_old (blk_new w (.cells (devC d ta tc qa qc da dc la lc) 27)) (.cells (wrC x) 41))
  have HX := Lib.hid (blk_new' (w.alloc (.cells (devC d ta tc qa qc da dc la lc) 27)) (.cells (wrC x) 41) (w.heap.size + 1) (by simp))
  go_enter Try.func4, Try.ntmps4
  go_wp2_with fail
  refine (sanity_ok _).mono ?_
  rintro e w1 ⟨rfl, k1⟩
  have K1 := Lib.hid (KW.out.trans k1)
  have HD1 := Lib.hid (k1.blk HD.out (fun x => x))
  have HX1 := Lib.hid (k1.blk HX.out (fun x => x))
  clear k1 KW HD HX
  go_wp2_with (refine wpList_load_big bigDev rfl _ rfl w.heap.size 0 (devC d ta tc qa qc da dc la lc) rfl (range_blk HD1.out) rfl ?_)
  refine (right2_ok d ta qa da la tc qc dc lc NoM w w1 K1.out (HH.out.kept K1.out.of_no) HOT.out HOQ.out HTQ.out.1 HTQ.out.2).mono ?_
  rintro e w2 ⟨b1, rfl, hb, k2⟩
  have B1 := Lib.hid hb
  have K2 := Lib.hid (K1.out.trans k2)
  have HD2 := Lib.hid (k2.blk HD1.out (fun x => x))
  have HX2 := Lib.hid (k2.blk HX1.out (fun x => x))
  clear hb k2 K1 HD1 HX1
  cases b1
  · go_wp2_with fail
    go_ret
    exact ⟨rfl, K2.out⟩
  go_wp2_with (refine wpList_load_bigG bigWr (by rfl) _ rfl (w.heap.size + 1) 0 (wrC x) rfl (range_blk HX2.out) rfl ?_)
  refine (feww_ok _ [x] NoM 1 _ (rd_one (blk_new w2 (.cells (wrC x) 41)) (fun x => x) rfl rfl) (by simp) w (K2.out.alloc _) (fun y hy => by rw [List.mem_singleton] at hy; subst hy; exact HOX.out)).mono ?_
  rintro e w3 ⟨b2, rfl, hb, k3⟩
  have B2 := Lib.hid hb
  have k3 := ((Kept.refl NoM w2).alloc (.cells (wrC x) 41)).trans k3
  have KW := Lib.hid (K2.out.trans k3)
  have HD := Lib.hid (k3.blk HD2.out (fun x => x))
  have HX := Lib.hid (k3.blk HX2.out (fun x => x))
  clear hb k3 K2 HD2 HX2
  cases b2
  · go_wp2_with fail
    go_ret
    exact ⟨rfl, KW.out⟩
  obtain ⟨⟨hfew, hdb⟩, hrd⟩ := B1.out (by first | trivial | rfl)
  have hxo := (B2.out (by first | trivial | rfl)).2 x List.mem_cons_self
  have hF : Few d := ⟨by omega, by omega, by omega⟩
  obtain ⟨D1, A1, n1, hD1, hA1, hC1⟩ := recv_any d x ta qa da la tc qc dc lc w HH.out hrd hF hdb hxo HKX.out.1 HKX.out.2
  obtain ⟨D2, A2, n2, hD2, hA2, hC2⟩ := do_any d k ta qa da la tc qc dc lc w HH.out hrd hF hdb
  have N1 := Lib.hid hD1
  have N2 := Lib.hid hD2
  have L1 := Lib.hid hA1
  have L2 := Lib.hid hA2
  have CC1 := Lib.hid hC1
  have CC2 := Lib.hid hC2
  have NB := Lib.hid hdb
  have RR := Lib.hid hrd
  clear hfew hdb hrd hxo hF hD1 hD2 hA1 hA2 hC1 hC2 B1 B2 HOX HKX HOT HOQ HTQ
  go_wp2_with (first | (refine wpList_load_big bigDev rfl _ rfl w.heap.size 0 (devC d ta tc qa qc da dc la lc) rfl (range_blk HD.out) rfl ?_) | (refine wpList_load_big bigWr rfl _ rfl (w.heap.size + 1) 0 (wrC x) rfl (range_blk HX.out) rfl ?_))
  refine (CC1.out _ KW.out).1.mono ?_
  rintro e v1 ⟨av, aw1, rfl, q1, q2, kk⟩
  obtain ⟨ta1, tc1, qa1, qc1, da1, dc1, la1, lc1, rfl, q1⟩ := q1
  have kb := kk.trans ((Kept.refl NoM v1).alloc (.cells (devC D1 ta1 tc1 qa1 qc1 da1 dc1 la1 lc1) 27))
  have KW := Lib.hid (KW.out.trans kb)
  have HD := Lib.hid (kb.blk HD.out (fun x => x))
  have HX := Lib.hid (kb.blk HX.out (fun x => x))
  have G1 := Lib.hid (blk_new v1 (.cells (devC D1 ta1 tc1 qa1 qc1 da1 dc1 la1 lc1) 27))
  have RD1 := Lib.hid (q1.kept ((Kept.refl NoM v1).alloc (.cells (devC D1 ta1 tc1 qa1 qc1 da1 dc1 la1 lc1) 27)).of_no)
  have RA1 := Lib.hid (q2.kept ((Kept.refl NoM v1).alloc (.cells (devC D1 ta1 tc1 qa1 qc1 da1 dc1 la1 lc1) 27)) (fun _ _ x => x))
  clear q1 q2 kk kb
  go_wp2_with (first | (refine wpList_alloc_Z rfl 27 rfl _ (devZ _) ?_) | (refine wpList_store_bign (cs := devC D1 ta1 tc1 qa1 qc1 da1 dc1 la1 lc1) bigDev rfl _ _ rfl _ rfl rfl rfl rfl rfl (dev1 _ _ _ _ _ _ _ _ _) ?_; generalize v1.alloc (.cells (devC D1 ta1 tc1 qa1 qc1 da1 dc1 la1 lc1) 27) = u1 at *) | (refine wpList_load_big bigDev rfl _ rfl w.heap.size 0 (devC d ta tc qa qc da dc la lc) rfl (range_blk HD.out) rfl ?_) | (refine wpList_load_big bigWr rfl _ rfl (w.heap.size + 1) 0 (wrC x) rfl (range_blk HX.out) rfl ?_))
  refine (CC1.out _ KW.out).2.mono ?_
  rintro e v2 ⟨av, aw2, rfl, q1, q2, kk⟩
  obtain ⟨ta2, tc2, qa2, qc2, da2, dc2, la2, lc2, rfl, q1⟩ := q1
  have kb := kk.trans ((Kept.refl NoM v2).alloc (.cells (devC D1 ta2 tc2 qa2 qc2 da2 dc2 la2 lc2) 27))
  have KW := Lib.hid (KW.out.trans kb)
  have HD := Lib.hid (kb.blk HD.out (fun x => x))
  have HX := Lib.hid (kb.blk HX.out (fun x => x))
  have G1 := Lib.hid (kb.blk G1.out (fun x => x))
  have RD1 := Lib.hid (RD1.out.kept kb.of_no)
  have RA1 := Lib.hid (RA1.out.kept kb (fun _ _ x => x))
  have G2 := Lib.hid (blk_new v2 (.cells (devC D1 ta2 tc2 qa2 qc2 da2 dc2 la2 lc2) 27))
  have RD2 := Lib.hid (q1.kept ((Kept.refl NoM v2).alloc (.cells (devC D1 ta2 tc2 qa2 qc2 da2 dc2 la2 lc2) 27)).of_no)
  have RA2 := Lib.hid (q2.kept ((Kept.refl NoM v2).alloc (.cells (devC D1 ta2 tc2 qa2 qc2 da2 dc2 la2 lc2) 27)) (fun _ _ x => x))
  clear q1 q2 kk kb
  go_wp2_with (first | (refine wpList_alloc_Z rfl 27 rfl _ (devZ _) ?_) | (refine wpList_store_bign (cs := devC D1 ta2 tc2 qa2 qc2 da2 dc2 la2 lc2) bigDev rfl _ _ rfl _ rfl rfl rfl rfl rfl (dev1 _ _ _ _ _ _ _ _ _) ?_; generalize v2.alloc (.cells (devC D1 ta2 tc2 qa2 qc2 da2 dc2 la2 lc2) 27) = u2 at *) | (refine wpList_load_big bigDev rfl _ rfl w.heap.size 0 (devC d ta tc qa qc da dc la lc) rfl (range_blk HD.out) rfl ?_) | (refine wpList_load_big bigWr rfl _ rfl (w.heap.size + 1) 0 (wrC x) rfl (range_blk HX.out) rfl ?_))
  refine (CC2.out _ KW.out).1.mono ?_
  rintro e v3 ⟨av, aw3, rfl, q1, q2, kk⟩
  obtain ⟨ta3, tc3, qa3, qc3, da3, dc3, la3, lc3, rfl, q1⟩ := q1
  have kb := kk.trans ((Kept.refl NoM v3).alloc (.cells (devC D2 ta3 tc3 qa3 qc3 da3 dc3 la3 lc3) 27))
  have KW := Lib.hid (KW.out.trans kb)
  have HD := Lib.hid (kb.blk HD.out (fun x => x))
  have HX := Lib.hid (kb.blk HX.out (fun x => x))
  have G1 := Lib.hid (kb.blk G1.out (fun x => x))
  have RD1 := Lib.hid (RD1.out.kept kb.of_no)
  have RA1 := Lib.hid (RA1.out.kept kb (fun _ _ x => x))
  have G2 := Lib.hid (kb.blk G2.out (fun x => x))
  have RD2 := Lib.hid (RD2.out.kept kb.of_no)
  have RA2 := Lib.hid (RA2.out.kept kb (fun _ _ x => x))
  have G3 := Lib.hid (blk_new v3 (.cells (devC D2 ta3 tc3 qa3 qc3 da3 dc3 la3 lc3) 27))
  have RD3 := Lib.hid (q1.kept ((Kept.refl NoM v3).alloc (.cells (devC D2 ta3 tc3 qa3 qc3 da3 dc3 la3 lc3) 27)).of_no)
  have RA3 := Lib.hid (q2.kept ((Kept.refl NoM v3).alloc (.cells (devC D2 ta3 tc3 qa3 qc3 da3 dc3 la3 lc3) 27)) (fun _ _ x => x))
  clear q1 q2 kk kb
  go_wp2_with (first | (refine wpList_alloc_Z rfl 27 rfl _ (devZ _) ?_) | (refine wpList_store_bign (cs := devC D2 ta3 tc3 qa3 qc3 da3 dc3 la3 lc3) bigDev rfl _ _ rfl _ rfl rfl rfl rfl rfl (dev1 _ _ _ _ _ _ _ _ _) ?_; generalize v3.alloc (.cells (devC D2 ta3 tc3 qa3 qc3 da3 dc3 la3 lc3) 27) = u3 at *) | (refine wpList_load_big bigDev rfl _ rfl w.heap.size 0 (devC d ta tc qa qc da dc la lc) rfl (range_blk HD.out) rfl ?_) | (refine wpList_load_big bigWr rfl _ rfl (w.heap.size + 1) 0 (wrC x) rfl (range_blk HX.out) rfl ?_))
  refine (CC2.out _ KW.out).2.mono ?_
  rintro e v4 ⟨av, aw4, rfl, q1, q2, kk⟩
  obtain ⟨ta4, tc4, qa4, qc4, da4, dc4, la4, lc4, rfl, q1⟩ := q1
  have kb := kk.trans ((Kept.refl NoM v4).alloc (.cells (devC D2 ta4 tc4 qa4 qc4 da4 dc4 la4 lc4) 27))
  have KW := Lib.hid (KW.out.trans kb)
  have HD := Lib.hid (kb.blk HD.out (fun x => x))
  have HX := Lib.hid (kb.blk HX.out (fun x => x))
  have G1 := Lib.hid (kb.blk G1.out (fun x => x))
  have RD1 := Lib.hid (RD1.out.kept kb.of_no)
  have RA1 := Lib.hid (RA1.out.kept kb (fun _ _ x => x))
  have G2 := Lib.hid (kb.blk G2.out (fun x => x))
  have RD2 := Lib.hid (RD2.out.kept kb.of_no)
  have RA2 := Lib.hid (RA2.out.kept kb (fun _ _ x => x))
  have G3 := Lib.hid (kb.blk G3.out (fun x => x))
  have RD3 := Lib.hid (RD3.out.kept kb.of_no)
  have RA3 := Lib.hid (RA3.out.kept kb (fun _ _ x => x))
  have G4 := Lib.hid (blk_new v4 (.cells (devC D2 ta4 tc4 qa4 qc4 da4 dc4 la4 lc4) 27))
  have RD4 := Lib.hid (q1.kept ((Kept.refl NoM v4).alloc (.cells (devC D2 ta4 tc4 qa4 qc4 da4 dc4 la4 lc4) 27)).of_no)
  have RA4 := Lib.hid (q2.kept ((Kept.refl NoM v4).alloc (.cells (devC D2 ta4 tc4 qa4 qc4 da4 dc4 la4 lc4) 27)) (fun _ _ x => x))
  clear q1 q2 kk kb
  go_wp2_with (first | (refine wpList_alloc_Z rfl 27 rfl _ (devZ _) ?_) | (refine wpList_store_bign (cs := devC D2 ta4 tc4 qa4 qc4 da4 dc4 la4 lc4) bigDev rfl _ _ rfl _ rfl rfl rfl rfl rfl (dev1 _ _ _ _ _ _ _ _ _) ?_; generalize v4.alloc (.cells (devC D2 ta4 tc4 qa4 qc4 da4 dc4 la4 lc4) 27) = u4 at *) | (refine wpList_load_big bigDev rfl _ rfl v1.heap.size 0 (devC D1 ta1 tc1 qa1 qc1 da1 dc1 la1 lc1) rfl (range_blk G1.out) rfl ?_) | (refine wpList_load_big bigDev rfl _ rfl v2.heap.size 0 (devC D1 ta2 tc2 qa2 qc2 da2 dc2 la2 lc2) rfl (range_blk G2.out) rfl ?_))
  refine (rsame_ok _ _ D1 NoM NoM u4 ⟨ta1, tc1, qa1, qc1, da1, dc1, la1, lc1, rfl, RD1.out⟩ ⟨ta2, tc2, qa2, qc2, da2, dc2, la2, lc2, rfl, RD2.out⟩ (N1.out.kept KW.out)).mono ?_
  rintro e y1 ⟨rfl, kk⟩
  have KW := Lib.hid (KW.out.trans kk)
  have HD := Lib.hid (kk.blk HD.out (fun x => x))
  have HX := Lib.hid (kk.blk HX.out (fun x => x))
  have G1 := Lib.hid (kk.blk G1.out (fun x => x))
  have RD1 := Lib.hid (RD1.out.kept kk.of_no)
  have RA1 := Lib.hid (RA1.out.kept kk (fun _ _ x => x))
  have G2 := Lib.hid (kk.blk G2.out (fun x => x))
  have RD2 := Lib.hid (RD2.out.kept kk.of_no)
  have RA2 := Lib.hid (RA2.out.kept kk (fun _ _ x => x))
  have G3 := Lib.hid (kk.blk G3.out (fun x => x))
  have RD3 := Lib.hid (RD3.out.kept kk.of_no)
  have RA3 := Lib.hid (RA3.out.kept kk (fun _ _ x => x))
  have G4 := Lib.hid (kk.blk G4.out (fun x => x))
  have RD4 := Lib.hid (RD4.out.kept kk.of_no)
  have RA4 := Lib.hid (RA4.out.kept kk (fun _ _ x => x))
  clear kk
  go_wp2_with fail
  refine (sameacks_ok _ _ A1 NoM NoM y1 RA1.out RA2.out L1.out).mono ?_
  rintro e z1 ⟨rfl, hd9⟩
  have kk : Kept NoM y1 z1 := by obtain ⟨n9, rfl⟩ := hd9; exact (Kept.refl NoM _).drewN _
  clear hd9
  have KW := Lib.hid (KW.out.trans kk)
  have HD := Lib.hid (kk.blk HD.out (fun x => x))
  have HX := Lib.hid (kk.blk HX.out (fun x => x))
  have G1 := Lib.hid (kk.blk G1.out (fun x => x))
  have RD1 := Lib.hid (RD1.out.kept kk.of_no)
  have RA1 := Lib.hid (RA1.out.kept kk (fun _ _ x => x))
  have G2 := Lib.hid (kk.blk G2.out (fun x => x))
  have RD2 := Lib.hid (RD2.out.kept kk.of_no)
  have RA2 := Lib.hid (RA2.out.kept kk (fun _ _ x => x))
  have G3 := Lib.hid (kk.blk G3.out (fun x => x))
  have RD3 := Lib.hid (RD3.out.kept kk.of_no)
  have RA3 := Lib.hid (RA3.out.kept kk (fun _ _ x => x))
  have G4 := Lib.hid (kk.blk G4.out (fun x => x))
  have RD4 := Lib.hid (RD4.out.kept kk.of_no)
  have RA4 := Lib.hid (RA4.out.kept kk (fun _ _ x => x))
  clear kk
  go_wp2_with (first | (refine wpList_load_big bigDev rfl _ rfl v3.heap.size 0 (devC D2 ta3 tc3 qa3 qc3 da3 dc3 la3 lc3) rfl (range_blk G3.out) rfl ?_) | (refine wpList_load_big bigDev rfl _ rfl v4.heap.size 0 (devC D2 ta4 tc4 qa4 qc4 da4 dc4 la4 lc4) rfl (range_blk G4.out) rfl ?_))
  refine (rsame_ok _ _ D2 NoM NoM z1 ⟨ta3, tc3, qa3, qc3, da3, dc3, la3, lc3, rfl, RD3.out⟩ ⟨ta4, tc4, qa4, qc4, da4, dc4, la4, lc4, rfl, RD4.out⟩ (N2.out.kept KW.out)).mono ?_
  rintro e y3 ⟨rfl, kk⟩
  have KW := Lib.hid (KW.out.trans kk)
  have HD := Lib.hid (kk.blk HD.out (fun x => x))
  have HX := Lib.hid (kk.blk HX.out (fun x => x))
  have G1 := Lib.hid (kk.blk G1.out (fun x => x))
  have RD1 := Lib.hid (RD1.out.kept kk.of_no)
  have RA1 := Lib.hid (RA1.out.kept kk (fun _ _ x => x))
  have G2 := Lib.hid (kk.blk G2.out (fun x => x))
  have RD2 := Lib.hid (RD2.out.kept kk.of_no)
  have RA2 := Lib.hid (RA2.out.kept kk (fun _ _ x => x))
  have G3 := Lib.hid (kk.blk G3.out (fun x => x))
  have RD3 := Lib.hid (RD3.out.kept kk.of_no)
  have RA3 := Lib.hid (RA3.out.kept kk (fun _ _ x => x))
  have G4 := Lib.hid (kk.blk G4.out (fun x => x))
  have RD4 := Lib.hid (RD4.out.kept kk.of_no)
  have RA4 := Lib.hid (RA4.out.kept kk (fun _ _ x => x))
  clear kk
  go_wp2_with fail
  refine (sameacks_ok _ _ A2 NoM NoM y3 RA3.out RA4.out L2.out).mono ?_
  rintro e z3 ⟨rfl, hd9⟩
  have kk : Kept NoM y3 z3 := by obtain ⟨n9, rfl⟩ := hd9; exact (Kept.refl NoM _).drewN _
  clear hd9
  have KW := Lib.hid (KW.out.trans kk)
  have HD := Lib.hid (kk.blk HD.out (fun x => x))
  have HX := Lib.hid (kk.blk HX.out (fun x => x))
  have G1 := Lib.hid (kk.blk G1.out (fun x => x))
  have RD1 := Lib.hid (RD1.out.kept kk.of_no)
  have RA1 := Lib.hid (RA1.out.kept kk (fun _ _ x => x))
  have G2 := Lib.hid (kk.blk G2.out (fun x => x))
  have RD2 := Lib.hid (RD2.out.kept kk.of_no)
  have RA2 := Lib.hid (RA2.out.kept kk (fun _ _ x => x))
  have G3 := Lib.hid (kk.blk G3.out (fun x => x))
  have RD3 := Lib.hid (RD3.out.kept kk.of_no)
  have RA3 := Lib.hid (RA3.out.kept kk (fun _ _ x => x))
  have G4 := Lib.hid (kk.blk G4.out (fun x => x))
  have RD4 := Lib.hid (RD4.out.kept kk.of_no)
  have RA4 := Lib.hid (RA4.out.kept kk (fun _ _ x => x))
  clear kk
  go_wp2_with fail
  refine wp_region_parH 23 [] [] [] [] [] (fun wx => Kept NoM z3 wx)
        [fun v _ => v = .bool true, fun v _ => v = .bool true, fun v _ => v = .bool true, fun v _ => v = .bool true, fun v _ => v = .bool true, fun v _ => v = .bool true, fun v _ => v = .bool true, fun v _ => v = .bool true, fun v _ => v = .agg (devC d ta tc qa qc da dc la lc), fun v wx => ∃ z : Unit, RdS wx NoM 1 EInt v (rdyTo d.queue d.queue.length), fun v _ => v = .agg (devC d ta tc qa qc da dc la lc), fun v wx => ∃ z : Unit, RdS wx NoM 1 EInt v (rdyTo d.queue d.queue.length), fun v _ => v = .bool true, fun v _ => v = .bool true, fun v _ => v = .bool true, fun v _ => v = .agg (devC d ta tc qa qc da dc la lc), fun v _ => v = .bool keep, fun v wx => ∃ z : Unit, DevV wx NoM v (rebD d keep), fun v _ => v = .agg (devC d ta tc qa qc da dc la lc), fun v _ => v = .bool keep, fun v wx => ∃ z : Unit, DevV wx NoM v (rebD d keep), fun v _ => v = .bool true, fun v _ => v = .bool true] (by kernel_rfl) (by kernel_rfl) (by kernel_rfl) (Kept.refl NoM z3).drew (inits_nil) ?_ ?_
  · intro i hi9
    have hst := stab_all (posts := [fun v _ => v = .bool true, fun v _ => v = .bool true, fun v _ => v = .bool true, fun v _ => v = .bool true, fun v _ => v = .bool true, fun v _ => v = .bool true, fun v _ => v = .bool true, fun v _ => v = .bool true, fun v _ => v = .agg (devC d ta tc qa qc da dc la lc), fun v wx => ∃ z : Unit, RdS wx NoM 1 EInt v (rdyTo d.queue d.queue.length), fun v _ => v = .agg (devC d ta tc qa qc da dc la lc), fun v wx => ∃ z : Unit, RdS wx NoM 1 EInt v (rdyTo d.queue d.queue.length), fun v _ => v = .bool true, fun v _ => v = .bool true, fun v _ => v = .bool true, fun v _ => v = .agg (devC d ta tc qa qc da dc la lc), fun v _ => v = .bool keep, fun v wx => ∃ z : Unit, DevV wx NoM v (rebD d keep), fun v _ => v = .agg (devC d ta tc qa qc da dc la lc), fun v _ => v = .bool keep, fun v wx => ∃ z : Unit, DevV wx NoM v (rebD d keep), fun v _ => v = .bool true, fun v _ => v = .bool true])        (stab_cons (stab_const _) (stab_cons (stab_const _) (stab_cons (stab_const _) (stab_cons (stab_const _) (stab_cons (stab_const _) (stab_cons (stab_const _) (stab_cons (stab_const _) (stab_cons (stab_const _) (stab_cons (stab_const _) (stab_cons (fun _ _ _ k ⟨z, h⟩ => ⟨z, h.kept k (fun _ _ x => x)⟩) (stab_cons (stab_const _) (stab_cons (fun _ _ _ k ⟨z, h⟩ => ⟨z, h.kept k (fun _ _ x => x)⟩) (stab_cons (stab_const _) (stab_cons (stab_const _) (stab_cons (stab_const _) (stab_cons (stab_const _) (stab_cons (stab_const _) (stab_cons (fun _ _ _ k ⟨z, h⟩ => ⟨z, by obtain ⟨a1, a2, a3, a4, a5, a6, a7, a8, e, h⟩ := h; exact ⟨a1, a2, a3, a4, a5, a6, a7, a8, e, h.kept k.of_no⟩⟩) (stab_cons (stab_const _) (stab_cons (stab_const _) (stab_cons (fun _ _ _ k ⟨z, h⟩ => ⟨z, by obtain ⟨a1, a2, a3, a4, a5, a6, a7, a8, e, h⟩ := h; exact ⟨a1, a2, a3, a4, a5, a6, a7, a8, e, h.kept k.of_no⟩⟩) (stab_cons (stab_const _) (stab_cons (stab_const _) stab_nil)))))))))))))))))))))))
    have hist := init_stab (inits := []) (fun p h => by cases h)
    have HST := Lib.hid hst
    have HIST := Lib.hid hist
    clear hst hist
    rcases (show i = 0 ∨ i = 1 ∨ i = 2 ∨ i = 3 ∨ i = 4 ∨ i = 5 ∨ i = 6 ∨ i = 7 ∨ i = 8 ∨ i = 9 ∨ i = 10 ∨ i = 11 ∨ i = 12 ∨ i = 13 ∨ i = 14 ∨ i = 15 ∨ i = 16 ∨ i = 17 ∨ i = 18 ∨ i = 19 ∨ i = 20 ∨ i = 21 ∨ i = 22 by omega) with rfl | rfl | rfl | rfl | rfl | rfl | rfl | rfl | rfl | rfl | rfl | rfl | rfl | rfl | rfl | rfl | rfl | rfl | rfl | rfl | rfl | rfl | rfl
    · refine asksH_intro ?_; intro o ho a wx hc hout hp hi R hR; cases ho
      refine .inl ⟨wanted_none rfl, ?_⟩
      have e9 : a.tmps[9]? = some (.bool true) := hout 9 rfl
      go_simp
      exact hR _ _ hc rfl (fun _ _ _ _ _ u h => h) (fun _ _ h => h)
    · refine asksH_intro ?_; intro o ho a wx hc hout hp hi R hR; cases ho
      refine .inl ⟨wanted_none rfl, ?_⟩
      have e89 : a.tmps[89]?.getD undef = .bool true := hp 0 (by omega) rfl
      go_simp
      exact hR _ _ hc rfl (fun _ _ _ _ _ u h => h) (fun _ _ h => h)
    · refine asksH_intro ?_; intro o ho a wx hc hout hp hi R hR; cases ho
      refine .inl ⟨wanted_some rfl rfl (hp 1 (by omega) rfl), ?_⟩
      have e22 : a.tmps[22]? = some (.bool true) := hout 22 rfl
      go_simp
      exact hR _ _ hc rfl (fun _ _ _ _ _ u h => h) (fun _ _ h => h)
    · refine asksH_intro ?_; intro o ho a wx hc hout hp hi R hR; cases ho
      refine .inl ⟨wanted_none rfl, ?_⟩
      have e90 : a.tmps[90]?.getD undef = .bool true := hp 1 (by omega) rfl
      have e91 : a.tmps[91]?.getD undef = .bool true := hp 2 (by omega) rfl
      go_simp
      exact hR _ _ hc rfl (fun _ _ _ _ _ u h => h) (fun _ _ h => h)
    · refine asksH_intro ?_; intro o ho a wx hc hout hp hi R hR; cases ho
      refine .inl ⟨wanted_none rfl, ?_⟩
      have e92 : a.tmps[92]?.getD undef = .bool true := hp 3 (by omega) rfl
      go_simp
      exact hR _ _ hc rfl (fun _ _ _ _ _ u h => h) (fun _ _ h => h)
    · refine asksH_intro ?_; intro o ho a wx hc hout hp hi R hR; cases ho
      refine .inl ⟨wanted_some rfl rfl (hp 4 (by omega) rfl), ?_⟩
      have e23 : a.tmps[23]? = some (.bool true) := hout 23 rfl
      go_simp
      exact hR _ _ hc rfl (fun _ _ _ _ _ u h => h) (fun _ _ h => h)
    · refine asksH_intro ?_; intro o ho a wx hc hout hp hi R hR; cases ho
      refine .inl ⟨wanted_none rfl, ?_⟩
      have e93 : a.tmps[93]?.getD undef = .bool true := hp 4 (by omega) rfl
      have e94 : a.tmps[94]?.getD undef = .bool true := hp 5 (by omega) rfl
      go_simp
      exact hR _ _ hc rfl (fun _ _ _ _ _ u h => h) (fun _ _ h => h)
    · refine asksH_intro ?_; intro o ho a wx hc hout hp hi R hR; cases ho
      refine .inl ⟨wanted_none rfl, ?_⟩
      have e95 : a.tmps[95]?.getD undef = .bool true := hp 6 (by omega) rfl
      go_simp
      exact hR _ _ hc rfl (fun _ _ _ _ _ u h => h) (fun _ _ h => h)
    · refine asksH_intro ?_; intro o ho a wx hc hout hp hi R hR; cases ho
      refine .inl ⟨wanted_some rfl rfl (hp 7 (by omega) rfl), ?_⟩
      have e4 : a.tmps[4]? = some (.pointer (some ⟨w.heap.size, 0, none⟩)) := hout 4 rfl
      refine gives_load_big bigDev (.tmp 4) rfl w.heap.size 0 (devC d ta tc qa qc da dc la lc) (by go_simp) (range_blk (hc.blk HD.out (fun x => x))) rfl ?_
      exact hR _ _ hc rfl (fun _ _ _ _ _ u h => h) (fun _ _ h => h)
    · refine asksH_intro ?_; intro o ho a wx hc hout hp hi R hR; cases ho
      refine .inl ⟨wanted_some rfl rfl (hp 7 (by omega) rfl), ?_⟩
      have e97 : a.tmps[97]?.getD undef = .agg (devC d ta tc qa qc da dc la lc) := hp 8 (by omega) rfl
      go_simp
      refine (ready_ok d ta qa da la tc qc dc lc NoM wx (HH.out.rq.kept (KW.out.trans hc) (fun _ _ x => x)) (by have := RR.out.ql; omega) (fun y hy => by have := formed_pri (RR.out.q y hy).1; omega)).mono ?_
      rintro e w2 ⟨ra, rn, rc9, RO, rfl, hO, hN, q3⟩
      exact ⟨_, rfl, hR _ _ (hc.trans q3) ⟨(), hO.rd (fun _ _ x => x)⟩ (fun j _ _ _ _ u h => HST.out j u _ _ q3 h) (fun j _ h => HIST.out j _ _ q3 h)⟩
    · refine asksH_intro ?_; intro o ho a wx hc hout hp hi R hR; cases ho
      refine .inl ⟨wanted_some rfl rfl (hp 7 (by omega) rfl), ?_⟩
      have e4 : a.tmps[4]? = some (.pointer (some ⟨w.heap.size, 0, none⟩)) := hout 4 rfl
      refine gives_load_big bigDev (.tmp 4) rfl w.heap.size 0 (devC d ta tc qa qc da dc la lc) (by go_simp) (range_blk (hc.blk HD.out (fun x => x))) rfl ?_
      exact hR _ _ hc rfl (fun _ _ _ _ _ u h => h) (fun _ _ h => h)
    · refine asksH_intro ?_; intro o ho a wx hc hout hp hi R hR; cases ho
      refine .inl ⟨wanted_some rfl rfl (hp 7 (by omega) rfl), ?_⟩
      have e99 : a.tmps[99]?.getD undef = .agg (devC d ta tc qa qc da dc la lc) := hp 10 (by omega) rfl
      go_simp
      refine (rready_ok d ta qa da la tc qc dc lc NoM wx (HH.out.rq.kept (KW.out.trans hc) (fun _ _ x => x)) (by have := RR.out.ql; omega)).mono ?_
      rintro e w2 ⟨ra, rn, rc9, RO, rfl, hO, hN, q3⟩
      exact ⟨_, rfl, hR _ _ (hc.trans q3) ⟨(), hO.rd (fun _ _ x => x)⟩ (fun j _ _ _ _ u h => HST.out j u _ _ q3 h) (fun j _ h => HIST.out j _ _ q3 h)⟩
    · refine asksH_intro ?_; intro o ho a wx hc hout hp hi R hR; cases ho
      refine .inl ⟨wanted_some rfl rfl (hp 7 (by omega) rfl), ?_⟩
      obtain ⟨z98, r98⟩ : ∃ z : Unit, RdS wx NoM 1 EInt (a.tmps[98]?.getD undef) (rdyTo d.queue d.queue.length) := hp 9 (by omega) rfl
      obtain ⟨z100, r100⟩ : ∃ z : Unit, RdS wx NoM 1 EInt (a.tmps[100]?.getD undef) (rdyTo d.queue d.queue.length) := hp 11 (by omega) rfl
      go_simp
      refine (sameints_ok _ _ (rdyTo d.queue d.queue.length) NoM NoM wx r98 r100 (by have := rdyTo_len d.queue d.queue.length; have := RR.out.ql; omega)).mono ?_
      rintro e w2 ⟨rfl, n9, rfl⟩
      exact ⟨_, rfl, hR _ _ (hc.trans ((Kept.refl NoM wx).drewN n9)) rfl (fun j _ _ _ _ u h => HST.out j u _ _ ((Kept.refl NoM wx).drewN n9) h) (fun j _ h => HIST.out j _ _ ((Kept.refl NoM wx).drewN n9) h)⟩
    · refine asksH_intro ?_; intro o ho a wx hc hout hp hi R hR; cases ho
      refine .inl ⟨wanted_none rfl, ?_⟩
      have e96 : a.tmps[96]?.getD undef = .bool true := hp 7 (by omega) rfl
      have e101 : a.tmps[101]?.getD undef = .bool true := hp 12 (by omega) rfl
      go_simp
      exact hR _ _ hc rfl (fun _ _ _ _ _ u h => h) (fun _ _ h => h)
    · refine asksH_intro ?_; intro o ho a wx hc hout hp hi R hR; cases ho
      refine .inl ⟨wanted_none rfl, ?_⟩
      have e102 : a.tmps[102]?.getD undef = .bool true := hp 13 (by omega) rfl
      go_simp
      exact hR _ _ hc rfl (fun _ _ _ _ _ u h => h) (fun _ _ h => h)
    · refine asksH_intro ?_; intro o ho a wx hc hout hp hi R hR; cases ho
      refine .inl ⟨wanted_some rfl rfl (hp 14 (by omega) rfl), ?_⟩
      have e4 : a.tmps[4]? = some (.pointer (some ⟨w.heap.size, 0, none⟩)) := hout 4 rfl
      refine gives_load_big bigDev (.tmp 4) rfl w.heap.size 0 (devC d ta tc qa qc da dc la lc) (by go_simp) (range_blk (hc.blk HD.out (fun x => x))) rfl ?_
      exact hR _ _ hc rfl (fun _ _ _ _ _ u h => h) (fun _ _ h => h)
    · refine asksH_intro ?_; intro o ho a wx hc hout hp hi R hR; cases ho
      refine .inl ⟨wanted_some rfl rfl (hp 14 (by omega) rfl), ?_⟩
      have e3 : a.tmps[3]? = some (.bool keep) := hout 3 rfl
      go_simp
      exact hR _ _ hc rfl (fun _ _ _ _ _ u h => h) (fun _ _ h => h)
    · refine asksH_intro ?_; intro o ho a wx hc hout hp hi R hR; cases ho
      refine .inl ⟨wanted_some rfl rfl (hp 14 (by omega) rfl), ?_⟩
      have e104 : a.tmps[104]?.getD undef = .agg (devC d ta tc qa qc da dc la lc) := hp 15 (by omega) rfl
      have e105 : a.tmps[105]?.getD undef = .bool keep := hp 16 (by omega) rfl
      go_simp
      refine (reb_ok d ta qa da la tc qc dc lc NoM keep wx (HH.out.kept (KW.out.trans hc).of_no)).mono ?_
      rintro e w2 ⟨v, rfl, hv, q3⟩
      exact ⟨_, rfl, hR _ _ (hc.trans q3) ⟨(), hv⟩ (fun j _ _ _ _ u h => HST.out j u _ _ q3 h) (fun j _ h => HIST.out j _ _ q3 h)⟩
    · refine asksH_intro ?_; intro o ho a wx hc hout hp hi R hR; cases ho
      refine .inl ⟨wanted_some rfl rfl (hp 14 (by omega) rfl), ?_⟩
      have e4 : a.tmps[4]? = some (.pointer (some ⟨w.heap.size, 0, none⟩)) := hout 4 rfl
      refine gives_load_big bigDev (.tmp 4) rfl w.heap.size 0 (devC d ta tc qa qc da dc la lc) (by go_simp) (range_blk (hc.blk HD.out (fun x => x))) rfl ?_
      exact hR _ _ hc rfl (fun _ _ _ _ _ u h => h) (fun _ _ h => h)
    · refine asksH_intro ?_; intro o ho a wx hc hout hp hi R hR; cases ho
      refine .inl ⟨wanted_some rfl rfl (hp 14 (by omega) rfl), ?_⟩
      have e3 : a.tmps[3]? = some (.bool keep) := hout 3 rfl
      go_simp
      exact hR _ _ hc rfl (fun _ _ _ _ _ u h => h) (fun _ _ h => h)
    · refine asksH_intro ?_; intro o ho a wx hc hout hp hi R hR; cases ho
      refine .inl ⟨wanted_some rfl rfl (hp 14 (by omega) rfl), ?_⟩
      have e107 : a.tmps[107]?.getD undef = .agg (devC d ta tc qa qc da dc la lc) := hp 18 (by omega) rfl
      have e108 : a.tmps[108]?.getD undef = .bool keep := hp 19 (by omega) rfl
      go_simp
      refine (rreb_ok d ta qa da la tc qc dc lc NoM keep wx (HH.out.kept (KW.out.trans hc).of_no)).mono ?_
      rintro e w2 ⟨v, rfl, hv, q3⟩
      exact ⟨_, rfl, hR _ _ (hc.trans q3) ⟨(), hv⟩ (fun j _ _ _ _ u h => HST.out j u _ _ q3 h) (fun j _ h => HIST.out j _ _ q3 h)⟩
    · refine asksH_intro ?_; intro o ho a wx hc hout hp hi R hR; cases ho
      refine .inl ⟨wanted_some rfl rfl (hp 14 (by omega) rfl), ?_⟩
      obtain ⟨z106, r106⟩ : ∃ z : Unit, DevV wx NoM (a.tmps[106]?.getD undef) (rebD d keep) := hp 17 (by omega) rfl
      obtain ⟨z109, r109⟩ : ∃ z : Unit, DevV wx NoM (a.tmps[109]?.getD undef) (rebD d keep) := hp 20 (by omega) rfl
      go_simp
      refine (rsame_ok _ _ (rebD d keep) NoM NoM wx r106 r109 ((NB.out.reb keep).kept (KW.out.trans hc))).mono ?_
      rintro e w2 ⟨rfl, q3⟩
      exact ⟨_, rfl, hR _ _ (hc.trans q3) rfl (fun j _ _ _ _ u h => HST.out j u _ _ q3 h) (fun j _ h => HIST.out j _ _ q3 h)⟩
    · refine asksH_intro ?_; intro o ho a wx hc hout hp hi R hR; cases ho
      refine .inl ⟨wanted_none rfl, ?_⟩
      have e103 : a.tmps[103]?.getD undef = .bool true := hp 14 (by omega) rfl
      have e110 : a.tmps[110]?.getD undef = .bool true := hp 21 (by omega) rfl
      go_simp
      exact hR _ _ hc rfl (fun _ _ _ _ _ u h => h) (fun _ _ h => h)
  · intro vs w' hc hp
    have e111 : vs 22 = .bool true := hp 22 (by omega) rfl
    simp only [List.take_succ_cons, List.take_zero, List.drop_succ_cons, List.drop_zero, putAll, Act.put, List.setIfInBounds_toArray, List.set_cons_zero, List.set_cons_succ, Nat.reduceAdd, e111]
    change wpList _ _ _ _ _ _
    have HC10 := Lib.hid hc
    generalize w' = u19 at *
    clear hc hp
    go_wp2_with fail
    go_ret
    exact ⟨rfl, KW.out.trans HC10.out⟩
end Go.Proofs.Ytghgegghlefclaa
