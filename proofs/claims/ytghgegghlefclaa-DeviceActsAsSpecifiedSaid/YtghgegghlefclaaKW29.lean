/- Walks: Receive of the program: the ways that add to the queue. -/
import Derived.Test.YtghgegghlefclaaKW28
set_option linter.unusedVariables false
set_option linter.unusedSimpArgs false
set_option linter.unusedSectionVars false
namespace Go.Proofs.Ytghgegghlefclaa
open Go.RowKit
set_option maxHeartbeats 4000000
set_option maxRecDepth 8000
theorem rd_nil0 {α : Type} {w : World} {M : Nat → Prop} {sz : Nat} {E : List Value → α → Prop} : RdS w M sz E (.slice none 0 0) [] := ⟨none, 0, rfl, Nat.le_refl _, by unfold maxLen; omega, .inl ⟨rfl, rfl⟩⟩
theorem newO_ge {W w : World} {O O' : Option Nat} (h : ∀ o, O = some o → W.heap.size ≤ o) (hs : W.heap.size ≤ w.heap.size) (hn : NewO w O O') (g : Nat) (hg : O' = some g) : W.heap.size ≤ g := by
  rcases hn with e | ⟨g', e, hg'⟩
  · exact h g (e.symm.trans hg)
  · rw [e] at hg; cases hg; omega
theorem RdS.len {α : Type} {w : World} {M : Nat → Prop} {sz n m : Nat} {E : List Value → α → Prop} {a : Option Addr} {c : Nat} {xs : List α} (hn : n = m) (h : RdS w M sz E (.slice a n c) xs) : RdS w M sz E (.slice a m c) xs := hn ▸ h
theorem recv_add1 (d : Dev) (x : Wr) (ta qa da la : Option Addr) (tc qc dc lc : Nat) (M : Nat → Prop) (w : World) (h : DevR w M d ta tc qa qc da dc la lc) (hM : ∀ i, M i → i < w.heap.size) (hql : d.queue.length ≤ 1000) (hdl : d.done.length ≤ 1000)
    (hF : ∀ wx, Kept NoM w wx → Calls Try.prog 41 #[.agg (wrC x)] wx fun e w' => e = .returned (.bool true) ∧ Kept NoM wx w') (hep : x.ep = d.ep) (hh : hasI d.done x.seq = false) (hw : hasSeq d.queue x.seq = false) (hf : d.queue.length < 64) (he : earlyW d x = true) :
    Calls Try.prog 17 #[.agg (devC d ta tc qa qc da dc la lc), .agg (wrC x)] w (RecvPost M w ({ d with queue := d.queue ++ [x] }) ([⟨x.ep, x.seq, 0⟩])) := by
  have KB := Lib.hid ((((Kept.refl NoM w).alloc (.cells (devC d ta tc qa qc da dc la lc) 27)).alloc (.cells (wrC x) 41)).alloc (.cells devZC 27))
  have B0 := Lib.hid (blk_old (blk_old (blk_new w (.cells (devC d ta tc qa qc da dc la lc) 27)) (.cells (wrC x) 41)) (.cells devZC 27))
  have B1 := Lib.hid (blk_old (blk_new' (w.alloc (.cells (devC d ta tc qa qc da dc la lc) 27)) (.cells (wrC x) 41) (w.heap.size + 1) (by simp)) (.cells devZC 27))
  have B4 := Lib.hid (blk_new' ((w.alloc (.cells (devC d ta tc qa qc da dc la lc) 27)).alloc (.cells (wrC x) 41)) (.cells devZC 27) (w.heap.size + 2) (by simp))
  have FM := Lib.hid (hF _ KB.out)
  have HH := Lib.hid h
  have HM := Lib.hid hM
  have RC : Hid (∀ e wx, wx.heap[w.heap.size + 1]? = some (.cells (wrC x) 41 (0, 0)) → Calls Try.prog 55 #[.int .i64 e, .pointer (some ⟨w.heap.size + 1, 0, none⟩)] wx fun en w' => ∃ b, en = .returned (.slice (some ⟨b, 0, none⟩) 1 1) ∧ wx.heap.size ≤ b ∧ w'.heap[b]? = some (.cells #[.int .i64 x.ep, .int .i64 x.seq, .int .i64 e] 60 (0, 0)) ∧ Kept NoM wx w') := Lib.hid (fun e wx hx => recvc_ok x e _ wx hx)
  clear h hM hF
  have f1 : ¬ x.ep < d.ep := by omega
  have f2 : ¬ x.ep > d.ep := by omega
  clear hep
  have HS := Lib.hid hh
  have HQ := Lib.hid hw
  have f3 : ((d.queue.length : Int) == 64) = false := by simp; omega
  have HFQ := Lib.hid hf
  clear hh hw hf
  have HE := Lib.hid (show earlyW ({ d with queue := d.queue ++ [x] } : Dev) x = true from he)
  have RQ := Lib.hid HH.out.rq
  clear he
  go_enter Try.func17, Try.ntmps17
  go_wp2_with (first
      | (refine wpList_alloc_Z rfl 27 rfl _ (devZ _) ?_)
      | (refine wpList_load_big bigWr rfl _ rfl (w.heap.size + 1) 0 (wrC x) rfl (range_blk (by first | exact B1.out | exact C1.out | exact E1.out)) rfl ?_)
      | (go_at_call 41; refine FM.out.mono ?_; rintro e w1 ⟨rfl, k1⟩; have K1 := Lib.hid (KB.out.trans k1); have C0 := Lib.hid (k1.blk B0.out (fun x => x)); have C1 := Lib.hid (k1.blk B1.out (fun x => x)); have C4 := Lib.hid (k1.blk B4.out (fun x => x)); have hz1 := lt_of_block C4.out; have v0 := cell_blk C1.out 0 _ (wrC_0 x); have v1 := cell_blk C1.out 1 _ (wrC_1 x); have u1 := cell_blk C0.out 1 _ dv1; have u3 := cell_blk C0.out 3 _ dv3; have u4 := cell_blk C0.out 4 _ dv4; clear k1)
      | (go_at_call 47; refine (hasints_ok _ d.done M x.seq _ (HH.out.rd.kept K1.out.of_no (fun _ _ x => x)) (by omega)).mono ?_; rw [HS.out]; rintro e w2 ⟨rfl, rfl⟩)
      | (go_at_call 56; refine (waits_ok _ d.queue M x.seq _ (HH.out.rq.kept K1.out.of_no (fun _ _ x => x)) (by omega)).mono ?_; rw [HQ.out]; rintro e w3 ⟨rfl, k3⟩; have K3 := Lib.hid (K1.out.trans k3); have E0 := Lib.hid (k3.blk C0.out (fun x => x)); have E1 := Lib.hid (k3.blk C1.out (fun x => x)); have E4 := Lib.hid (k3.blk C4.out (fun x => x)); have hz3 := lt_of_block E4.out; have t3 := cell_blk E0.out 3 _ dv3; clear k3))
  have RQ3 := Lib.hid (RQ.out.kept K3.out.of_no (fun _ _ x => x))
  refine wp_region_par 5 [] [] [] [] [] (fun wx => Kept NoM w3 wx)
        [fun v _ => v = .pointer (some ⟨w.heap.size, 3, none⟩), fun v _ => v = .slice qa d.queue.length qc, fun v wx => ∃ a5 cap5 O5, v = .slice a5 d.queue.length cap5 ∧ OwnS wx O5 41 26 EWr (.slice a5 d.queue.length cap5) d.queue ∧ ∀ o, O5 = some o → w3.heap.size ≤ o, fun v _ => v = .agg (wrC x), fun v wx => ∃ b, (v = .slice (some ⟨b, 0, none⟩) 1 1 ∧ w3.heap.size ≤ b) ∧ wx.heap[b]? = some (.cells (wrC x) 41 (0, 0))] (by kernel_rfl) (by kernel_rfl) (by kernel_rfl) (Kept.refl NoM w3).drew (inits_nil) ?_ ?_
  · intro i hi9
    have hst := stab_all (posts := [fun v _ => v = .pointer (some ⟨w.heap.size, 3, none⟩), fun v _ => v = .slice qa d.queue.length qc, fun v wx => ∃ a5 cap5 O5, v = .slice a5 d.queue.length cap5 ∧ OwnS wx O5 41 26 EWr (.slice a5 d.queue.length cap5) d.queue ∧ ∀ o, O5 = some o → w3.heap.size ≤ o, fun v _ => v = .agg (wrC x), fun v wx => ∃ b, (v = .slice (some ⟨b, 0, none⟩) 1 1 ∧ w3.heap.size ≤ b) ∧ wx.heap[b]? = some (.cells (wrC x) 41 (0, 0))])        (stab_cons (stab_const _) (stab_cons (stab_const _) (stab_cons (fun _ _ _ k ⟨a5, cap5, O5, q1, q2, q3⟩ => ⟨a5, cap5, O5, q1, q2.kept k (fun _ _ x => x) (fun _ _ x => x), q3⟩) (stab_cons (stab_const _) (stab_cons (stab_blk (fun b v => v = .slice (some ⟨b, 0, none⟩) 1 1 ∧ w3.heap.size ≤ b) (fun b => b) (fun b => .cells (wrC x) 41 (0, 0))) stab_nil)))))
    have hist := init_stab (inits := []) (fun p h => by cases h)
    have HST := Lib.hid hst
    have HIST := Lib.hid hist
    clear hst hist
    rcases (show i = 0 ∨ i = 1 ∨ i = 2 ∨ i = 3 ∨ i = 4 by omega) with rfl | rfl | rfl | rfl | rfl
    · refine asks_intro ?_; intro o ho a wx hc hout hp hi R hR; cases ho
      have e2 : a.tmps[2]? = some (.pointer (some ⟨w.heap.size, 0, none⟩)) := hout 2 rfl
      go_simp
      exact hR _ _ hc rfl (fun _ _ _ _ _ u h => h) (fun _ _ h => h)
    · refine asks_intro ?_; intro o ho a wx hc hout hp hi R hR; cases ho
      have e32 : a.tmps[32]?.getD undef = .pointer (some ⟨w.heap.size, 3, none⟩) := hp 0 (by omega) rfl
      have y3 := cell_blk (hc.blk E0.out (fun x => x)) 3 _ dv3
      go_simp
      exact hR _ _ hc rfl (fun _ _ _ _ _ u h => h) (fun _ _ h => h)
    · refine asks_intro ?_; intro o ho a wx hc hout hp hi R hR; cases ho
      have e33 : a.tmps[33]?.getD undef = .slice qa d.queue.length qc := hp 1 (by omega) rfl
      go_simp
      refine (clonew_ok _ d.queue M wx (RQ3.out.kept hc.of_no (fun _ _ x => x)) (by omega)).mono ?_
      rintro e w2 ⟨a5, cap5, O5, rfl, q1, q2, q3⟩
      exact ⟨_, rfl, hR _ _ (hc.trans q3) ⟨a5, cap5, O5, rfl, q1, fun o ho => by rcases q2 with q2 | ⟨g2, q2, q4⟩; exact absurd (q2.symm.trans ho) (by simp); exact Nat.le_trans hc.size (by rw [ho] at q2; cases q2; exact q4)⟩ (fun j _ _ _ _ u h => HST.out j u _ _ q3 h) (fun j _ h => HIST.out j _ _ q3 h)⟩
    · refine asks_intro ?_; intro o ho a wx hc hout hp hi R hR; cases ho
      have e3 : a.tmps[3]? = some (.pointer (some ⟨w.heap.size + 1, 0, none⟩)) := hout 3 rfl
      refine gives_load_big bigWr (.tmp 3) rfl (w.heap.size + 1) 0 (wrC x) (by go_simp) (range_blk (hc.blk E1.out (fun x => x))) rfl ?_
      exact hR _ _ hc rfl (fun _ _ _ _ _ u h => h) (fun _ _ h => h)
    · refine asks_intro ?_; intro o ho a wx hc hout hp hi R hR; cases ho
      have e35 : a.tmps[35]?.getD undef = .agg (wrC x) := hp 3 (by omega) rfl
      go_simp
      exact hR _ _ (hc.alloc _) ⟨_, ⟨rfl, hc.size⟩, blk_new _ _⟩ (fun j _ _ _ _ u h => HST.out j u _ _ ((Kept.refl _ _).alloc _) h) (fun j _ h => HIST.out j _ _ ((Kept.refl _ _).alloc _) h)
  · intro vs w' hc hp
    have e32 : vs 0 = .pointer (some ⟨w.heap.size, 3, none⟩) := hp 0 (by omega) rfl
    have e33 : vs 1 = .slice qa d.queue.length qc := hp 1 (by omega) rfl
    obtain ⟨a5, cap5, O5, e34, o5, n5⟩ : ∃ a5 cap5 O5, vs 2 = .slice a5 d.queue.length cap5 ∧ OwnS w' O5 41 26 EWr (.slice a5 d.queue.length cap5) d.queue ∧ ∀ o, O5 = some o → w3.heap.size ≤ o := hp 2 (by omega) rfl
    have e35 : vs 3 = .agg (wrC x) := hp 3 (by omega) rfl
    obtain ⟨b, e36, hb36⟩ : ∃ b, (vs 4 = .slice (some ⟨b, 0, none⟩) 1 1 ∧ w3.heap.size ≤ b) ∧ w'.heap[b]? = some (.cells (wrC x) 41 (0, 0)) := hp 4 (by omega) rfl
    simp only [List.take_succ_cons, List.take_zero, List.drop_succ_cons, List.drop_zero, putAll, Act.put, List.setIfInBounds_toArray, List.set_cons_zero, List.set_cons_succ, Nat.reduceAdd, e32, e33, e35]
    obtain ⟨e36, hb36w⟩ := e36
    rw [e34, e36]
    change wpList _ _ _ _ _ _
    have HO := Lib.hid o5
    have HN5 := Lib.hid n5
    have KC := Lib.hid hc
    have HAB := Lib.hid hb36
    have HBW := Lib.hid hb36w
    have HD8 := Lib.hid (hc.blk E0.out (fun x => x))
    have HX8 := Lib.hid (hc.blk E1.out (fun x => x))
    have HZ8 := Lib.hid (hc.blk E4.out (fun x => x))
    clear hc hp o5 n5 hb36 hb36w e32 e33 e35
    have RD1 := Lib.hid (rd_one (M := NoM) (sz := 26) (E := EWr) (x := x) HAB.out (fun x => x) rfl rfl)
    generalize hWE : w' = we at *
    have hzW := lt_of_block E4.out
    go_wp2_with (first | (at_builtin; go_loud (refine wpList_append_S (M := NoM) rfl (.tmp 34) (.tmp 36) 24 rfl 224 tyWrites _ rfl HO.out _ rfl RD1.out eWr_one d.queue.length 1 rfl rfl (by unfold maxLen; omega) (by omega) ?_; intro a8 cap8 w8 O8 hown hkk hnn; have hO8 : ∀ g, O8 = some g → w3.heap.size ≤ g := newO_ge HN5.out KC.out.size hnn; have HD7 := Lib.hid (hkk.blk HD8.out (fun e => absurd (HN5.out _ e.symm) (by omega))); have y71 := cell_blk HD7.out 3 _ dv3; have y72 := free_blk HD7.out 3; have HX7 := Lib.hid (hkk.blk HX8.out (fun e => absurd (HN5.out _ e.symm) (by omega))); have HZ7 := Lib.hid (hkk.blk HZ8.out (fun e => absurd (HN5.out _ e.symm) (by omega))); have HD9 := Lib.hid (show (w8.setCell ⟨w.heap.size, 3, none⟩ (.slice a8 (d.queue.length + 1) cap8)).heap[w.heap.size]? = some (.cells (devC ({ d with queue := d.queue ++ [x] } : Dev) ta tc a8 cap8 da dc la lc) 27 (0, 0)) from (blk_set HD7.out _).trans (by simp [devC])); have HX9 := Lib.hid (blk_set_ne (i := 3) HX7.out (show w.heap.size + 1 ≠ w.heap.size by omega) (.slice a8 (d.queue.length + 1) cap8)); have HZ9 := Lib.hid (blk_set_ne (i := 3) HZ7.out (show w.heap.size + 2 ≠ w.heap.size by omega) (.slice a8 (d.queue.length + 1) cap8)); have R7 := Lib.hid (hown.rd (M := fun i => i < w3.heap.size) (fun g hg => by have := hO8 g hg; omega)); have K7 : Hid (Kept NoM w w8) := Lib.hid ((K3.out.trans KC.out).trans' hkk (fun i hi e => absurd (HN5.out _ e.symm) (by have := K3.out.size; omega))); have K9 : Hid (Kept NoM w (w8.setCell ⟨w.heap.size, 3, none⟩ (.slice a8 (d.queue.length + 1) cap8))) := Lib.hid (K7.out.setCell (fun h => absurd h (Nat.lt_irrefl _)) _); have R9 := Lib.hid (R7.out.kept ((Kept.refl _ w8).setCell (p := ⟨w.heap.size, 3, none⟩) (fun _ => (show w.heap.size < w3.heap.size by omega)) (.slice a8 (d.queue.length + 1) cap8)) (fun _ _ x => x)); clear hown hkk hnn hO8)) | (refine wpList_load_big bigDev rfl _ rfl w.heap.size 0 (devC ({ d with queue := d.queue ++ [x] } : Dev) ta tc a8 cap8 da dc la lc) rfl (range_blk (by first | exact G0.out | exact HD9.out)) rfl ?_) | (refine wpList_load_big bigWr rfl _ rfl (w.heap.size + 1) 0 (wrC x) rfl (range_blk HX9.out) rfl ?_) | (go_at_call 53; refine (early_ok (({ d with queue := d.queue ++ [x] } : Dev)) x ta a8 da la tc cap8 dc lc _).mono ?_; rw [HE.out]; rintro e w4 ⟨rfl, k4⟩; have K4 := Lib.hid (K9.out.trans k4); have G0 := Lib.hid (k4.blk HD9.out (fun x => x)); have G1 := Lib.hid (k4.blk HX9.out (fun x => x)); have G4 := Lib.hid (k4.blk HZ9.out (fun x => x)); have R4 := Lib.hid (R9.out.kept k4.of_no (fun _ _ x => x)); have hz4 := lt_of_block G4.out; clear k4))
    refine wp_region_par 4 [] [] [] [] [] (fun wx => CF w4 (w.heap.size + 2) wx)
          [fun v _ => v = .agg (devC ({ d with queue := d.queue ++ [x] } : Dev) ta tc a8 cap8 da dc la lc), fun v _ => v = .func (.func 55) #[] #[.pointer (some ⟨w.heap.size + 1, 0, none⟩)], fun v wx => ∃ b, (v = .slice (some ⟨b, 0, none⟩) 1 1 ∧ w4.heap.size ≤ b) ∧ wx.heap[b]? = some (.cells #[.int .i64 x.ep, .int .i64 x.seq, .int .i64 0] 60 (0, 0)), fun _ wx => wx.heap[w.heap.size + 2]? = some (.cells (devC ({ d with queue := d.queue ++ [x] } : Dev) ta tc a8 cap8 da dc la lc) 27 (0, 0))] (by kernel_rfl) (by kernel_rfl) (by kernel_rfl) (CF.refl rfl G4.out).drew (inits_nil) ?_ ?_
    · intro i hi9
      have hst := stab_all (posts := [fun v _ => v = .agg (devC ({ d with queue := d.queue ++ [x] } : Dev) ta tc a8 cap8 da dc la lc), fun v _ => v = .func (.func 55) #[] #[.pointer (some ⟨w.heap.size + 1, 0, none⟩)], fun v wx => ∃ b, (v = .slice (some ⟨b, 0, none⟩) 1 1 ∧ w4.heap.size ≤ b) ∧ wx.heap[b]? = some (.cells #[.int .i64 x.ep, .int .i64 x.seq, .int .i64 0] 60 (0, 0)), fun _ wx => wx.heap[w.heap.size + 2]? = some (.cells (devC ({ d with queue := d.queue ++ [x] } : Dev) ta tc a8 cap8 da dc la lc) 27 (0, 0))])        (stab_cons (stab_const _) (stab_cons (stab_const _) (stab_cons (stab_blk (fun b v => v = .slice (some ⟨b, 0, none⟩) 1 1 ∧ w4.heap.size ≤ b) (fun b => b) (fun b => .cells #[.int .i64 x.ep, .int .i64 x.seq, .int .i64 0] 60 (0, 0))) (stab_cons (fun _ _ _ k h => k.blk h (fun x => x)) stab_nil))))
      have hist := init_stab (inits := []) (fun p h => by cases h)
      have HST := Lib.hid hst
      have HIST := Lib.hid hist
      clear hst hist
      rcases (show i = 0 ∨ i = 1 ∨ i = 2 ∨ i = 3 by omega) with rfl | rfl | rfl | rfl
      · refine asks_intro ?_; intro o ho a wx hc hout hp hi R hR; cases ho
        have e2 : a.tmps[2]? = some (.pointer (some ⟨w.heap.size, 0, none⟩)) := hout 2 rfl
        refine gives_load_big bigDev (.tmp 2) rfl w.heap.size 0 (devC ({ d with queue := d.queue ++ [x] } : Dev) ta tc a8 cap8 da dc la lc) (by go_simp) (range_blk (hc.blk G0.out (by omega))) rfl ?_
        exact hR _ _ hc rfl (fun _ _ _ _ _ u h => h) (fun _ _ h => h)
      · refine asks_intro ?_; intro o ho a wx hc hout hp hi R hR; cases ho
        have e7 : a.tmps[7]? = some (.func (.func 55) #[] #[.pointer (some ⟨w.heap.size + 1, 0, none⟩)]) := hout 7 rfl
        go_simp
        exact hR _ _ hc rfl (fun _ _ _ _ _ u h => h) (fun _ _ h => h)
      · refine asks_intro ?_; intro o ho a wx hc hout hp hi R hR; cases ho
        have e66 : a.tmps[66]?.getD undef = .func (.func 55) #[] #[.pointer (some ⟨w.heap.size + 1, 0, none⟩)] := hp 1 (by omega) rfl
        go_simp
        refine (RC.out 0 wx (hc.blk G1.out (by omega))).mono ?_
        rintro e w2 ⟨b, rfl, q1, q2, q3⟩
        exact ⟨_, rfl, hR _ _ (hc.kept q3) ⟨b, ⟨rfl, Nat.le_trans hc.1.size q1⟩, q2⟩ (fun j _ _ _ _ u h => HST.out j u _ _ q3 h) (fun j _ h => HIST.out j _ _ q3 h)⟩
      · refine asks_intro ?_; intro o ho a wx hc hout hp hi R hR; cases ho
        have e65 : a.tmps[65]?.getD undef = .agg (devC ({ d with queue := d.queue ++ [x] } : Dev) ta tc a8 cap8 da dc la lc) := hp 0 (by omega) rfl
        have e4 : a.tmps[4]? = some (.pointer (some ⟨w.heap.size + 2, 0, none⟩)) := hout 4 rfl
        obtain ⟨hck, z9, hz7, hz9⟩ := hc
        refine gives_store_bigb (cs := devC ({ d with queue := d.queue ++ [x] } : Dev) ta tc a8 cap8 da dc la lc) bigDev (.tmp 4) (.tmp 65) rfl (w.heap.size + 2) (by go_simp) (by go_simp) hz9 hz7 rfl (dev1 _ _ _ _ _ _ _ _ _) ?_
        refine hR _ _ (CF.put ⟨hck, z9, hz7, hz9⟩ _ rfl) (putB_blk _ _ _ _ (lt_of_block hz9)) (fun j hj hne hcn hwf u h => ?_) (fun q hq h => ?_)
        · rcases (show j = 0 ∨ j = 1 ∨ j = 2 ∨ j = 3 by omega) with rfl | rfl | rfl | rfl <;> first | exact h | exact absurd hcn (by decide) | exact absurd rfl hne | (obtain ⟨b, ⟨q1, q2⟩, q3⟩ := h; have q2 : w4.heap.size ≤ b := q2; have hz4 := lt_of_block G4.out; exact ⟨b, ⟨q1, q2⟩, (putB_blk_ne _ _ _ _ _ (by omega)).trans q3⟩)
        · trivial
    · intro vs w' hc hp
      have e65 : vs 0 = .agg (devC ({ d with queue := d.queue ++ [x] } : Dev) ta tc a8 cap8 da dc la lc) := hp 0 (by omega) rfl
      have e66 : vs 1 = .func (.func 55) #[] #[.pointer (some ⟨w.heap.size + 1, 0, none⟩)] := hp 1 (by omega) rfl
      obtain ⟨b, e67, hb67⟩ : ∃ b, (vs 2 = .slice (some ⟨b, 0, none⟩) 1 1 ∧ w4.heap.size ≤ b) ∧ w'.heap[b]? = some (.cells #[.int .i64 x.ep, .int .i64 x.seq, .int .i64 0] 60 (0, 0)) := hp 2 (by omega) rfl
      obtain ⟨_, hbg3⟩ : ∃ _ : Value, w'.heap[w.heap.size + 2]? = some (.cells (devC ({ d with queue := d.queue ++ [x] } : Dev) ta tc a8 cap8 da dc la lc) 27 (0, 0)) := hp 3 (by omega) rfl
      simp only [List.take_succ_cons, List.take_zero, List.drop_succ_cons, List.drop_zero, putAll, Act.put, List.setIfInBounds_toArray, List.set_cons_zero, List.set_cons_succ, Nat.reduceAdd, e65, e66]
      obtain ⟨e67, hsb⟩ := e67
      rw [e67]
      change wpList _ _ _ _ _ _
      have HB4 := Lib.hid hbg3
      have HAK := Lib.hid hb67
      have HC9 := Lib.hid hc
      clear hbg3 hb67 hc hp
      go_wp2_with fail
      have hl0 : _root_.Go.World.cell? _ ⟨w.heap.size + 1 + 1, 0, none⟩ = _ := cell_blk HB4.out 0 _ dv0
      have hl1 : _root_.Go.World.cell? _ ⟨w.heap.size + 1 + 1, 1, none⟩ = _ := cell_blk HB4.out 1 _ dv1
      have hl2 : _root_.Go.World.cell? _ ⟨w.heap.size + 1 + 1, 2, none⟩ = _ := cell_blk HB4.out 2 _ dv2
      have hl3 : _root_.Go.World.cell? _ ⟨w.heap.size + 1 + 1, 3, none⟩ = _ := cell_blk HB4.out 3 _ dv3
      have hl4 : _root_.Go.World.cell? _ ⟨w.heap.size + 1 + 1, 4, none⟩ = _ := cell_blk HB4.out 4 _ dv4
      have hl5 : _root_.Go.World.cell? _ ⟨w.heap.size + 1 + 1, 5, none⟩ = _ := cell_blk HB4.out 5 _ dv5
      have hl6 : _root_.Go.World.cell? _ ⟨w.heap.size + 1 + 1, 6, none⟩ = _ := cell_blk HB4.out 6 _ dv6
      refine bodyPost_ret (v := .tuple #[.agg (devC ({ d with queue := d.queue ++ [x] } : Dev) ta tc a8 cap8 da dc la lc), .slice (some ⟨b, 0, none⟩) 1 1, .int .i64 0]) (by simp [results, Try.results17, go_sem, devC, hl0, hl1, hl2, hl3, hl4, hl5, hl6]) rfl ?_
      have hzz := hzW
      have QK := Lib.hid (HC9.out.no K4.out (by omega))
      have QQ := Lib.hid (RdS.len (show d.queue.length + 1 = (d.queue ++ [x]).length by simp) ((R4.out.kept (HC9.out.1.mono (fun i _ e => by show i < w3.heap.size; omega)) (fun _ _ x => x)).mono (fun i _ h => by have := HM.out i h; show i < w3.heap.size; omega) (by omega) (fun _ _ x => x)))
      refine ⟨_, _, rfl, ⟨ta, tc, a8, cap8, da, dc, la, lc, rfl, (HH.out.kept QK.out.of_no).rt, QQ.out, (HH.out.kept QK.out.of_no).rd, (HH.out.kept QK.out.of_no).rl⟩, acks_one (a := ⟨x.ep, x.seq, 0⟩) HAK.out HM.out (by have := K4.out.size; omega), QK.out⟩
theorem recv_add2 (d : Dev) (x : Wr) (ta qa da la : Option Addr) (tc qc dc lc : Nat) (M : Nat → Prop) (w : World) (h : DevR w M d ta tc qa qc da dc la lc) (hM : ∀ i, M i → i < w.heap.size) (hql : d.queue.length ≤ 1000) (hdl : d.done.length ≤ 1000)
    (hF : ∀ wx, Kept NoM w wx → Calls Try.prog 41 #[.agg (wrC x)] wx fun e w' => e = .returned (.bool true) ∧ Kept NoM wx w') (hep : x.ep = d.ep) (hh : hasI d.done x.seq = false) (hw : hasSeq d.queue x.seq = false) (hf : d.queue.length < 64) (he : earlyW d x = false) :
    Calls Try.prog 17 #[.agg (devC d ta tc qa qc da dc la lc), .agg (wrC x)] w (RecvPost M w ({ d with queue := d.queue ++ [x] }) ([])) := by
  have KB := Lib.hid ((((Kept.refl NoM w).alloc (.cells (devC d ta tc qa qc da dc la lc) 27)).alloc (.cells (wrC x) 41)).alloc (.cells devZC 27))
  have B0 := Lib.hid (blk_old (blk_old (blk_new w (.cells (devC d ta tc qa qc da dc la lc) 27)) (.cells (wrC x) 41)) (.cells devZC 27))
  have B1 := Lib.hid (blk_old (blk_new' (w.alloc (.cells (devC d ta tc qa qc da dc la lc) 27)) (.cells (wrC x) 41) (w.heap.size + 1) (by simp)) (.cells devZC 27))
  have B4 := Lib.hid (blk_new' ((w.alloc (.cells (devC d ta tc qa qc da dc la lc) 27)).alloc (.cells (wrC x) 41)) (.cells devZC 27) (w.heap.size + 2) (by simp))
  have FM := Lib.hid (hF _ KB.out)
  have HH := Lib.hid h
  have HM := Lib.hid hM
  have RC : Hid (∀ e wx, wx.heap[w.heap.size + 1]? = some (.cells (wrC x) 41 (0, 0)) → Calls Try.prog 55 #[.int .i64 e, .pointer (some ⟨w.heap.size + 1, 0, none⟩)] wx fun en w' => ∃ b, en = .returned (.slice (some ⟨b, 0, none⟩) 1 1) ∧ wx.heap.size ≤ b ∧ w'.heap[b]? = some (.cells #[.int .i64 x.ep, .int .i64 x.seq, .int .i64 e] 60 (0, 0)) ∧ Kept NoM wx w') := Lib.hid (fun e wx hx => recvc_ok x e _ wx hx)
  clear h hM hF
  have f1 : ¬ x.ep < d.ep := by omega
  have f2 : ¬ x.ep > d.ep := by omega
  clear hep
  have HS := Lib.hid hh
  have HQ := Lib.hid hw
  have f3 : ((d.queue.length : Int) == 64) = false := by simp; omega
  have HFQ := Lib.hid hf
  clear hh hw hf
  have HE := Lib.hid (show earlyW ({ d with queue := d.queue ++ [x] } : Dev) x = false from he)
  have RQ := Lib.hid HH.out.rq
  clear he
  go_enter Try.func17, Try.ntmps17
  go_wp2_with (first
      | (refine wpList_alloc_Z rfl 27 rfl _ (devZ _) ?_)
      | (refine wpList_load_big bigWr rfl _ rfl (w.heap.size + 1) 0 (wrC x) rfl (range_blk (by first | exact B1.out | exact C1.out | exact E1.out)) rfl ?_)
      | (go_at_call 41; refine FM.out.mono ?_; rintro e w1 ⟨rfl, k1⟩; have K1 := Lib.hid (KB.out.trans k1); have C0 := Lib.hid (k1.blk B0.out (fun x => x)); have C1 := Lib.hid (k1.blk B1.out (fun x => x)); have C4 := Lib.hid (k1.blk B4.out (fun x => x)); have hz1 := lt_of_block C4.out; have v0 := cell_blk C1.out 0 _ (wrC_0 x); have v1 := cell_blk C1.out 1 _ (wrC_1 x); have u1 := cell_blk C0.out 1 _ dv1; have u3 := cell_blk C0.out 3 _ dv3; have u4 := cell_blk C0.out 4 _ dv4; clear k1)
      | (go_at_call 47; refine (hasints_ok _ d.done M x.seq _ (HH.out.rd.kept K1.out.of_no (fun _ _ x => x)) (by omega)).mono ?_; rw [HS.out]; rintro e w2 ⟨rfl, rfl⟩)
      | (go_at_call 56; refine (waits_ok _ d.queue M x.seq _ (HH.out.rq.kept K1.out.of_no (fun _ _ x => x)) (by omega)).mono ?_; rw [HQ.out]; rintro e w3 ⟨rfl, k3⟩; have K3 := Lib.hid (K1.out.trans k3); have E0 := Lib.hid (k3.blk C0.out (fun x => x)); have E1 := Lib.hid (k3.blk C1.out (fun x => x)); have E4 := Lib.hid (k3.blk C4.out (fun x => x)); have hz3 := lt_of_block E4.out; have t3 := cell_blk E0.out 3 _ dv3; clear k3))
  have RQ3 := Lib.hid (RQ.out.kept K3.out.of_no (fun _ _ x => x))
  refine wp_region_par 5 [] [] [] [] [] (fun wx => Kept NoM w3 wx)
        [fun v _ => v = .pointer (some ⟨w.heap.size, 3, none⟩), fun v _ => v = .slice qa d.queue.length qc, fun v wx => ∃ a5 cap5 O5, v = .slice a5 d.queue.length cap5 ∧ OwnS wx O5 41 26 EWr (.slice a5 d.queue.length cap5) d.queue ∧ ∀ o, O5 = some o → w3.heap.size ≤ o, fun v _ => v = .agg (wrC x), fun v wx => ∃ b, (v = .slice (some ⟨b, 0, none⟩) 1 1 ∧ w3.heap.size ≤ b) ∧ wx.heap[b]? = some (.cells (wrC x) 41 (0, 0))] (by kernel_rfl) (by kernel_rfl) (by kernel_rfl) (Kept.refl NoM w3).drew (inits_nil) ?_ ?_
  · intro i hi9
    have hst := stab_all (posts := [fun v _ => v = .pointer (some ⟨w.heap.size, 3, none⟩), fun v _ => v = .slice qa d.queue.length qc, fun v wx => ∃ a5 cap5 O5, v = .slice a5 d.queue.length cap5 ∧ OwnS wx O5 41 26 EWr (.slice a5 d.queue.length cap5) d.queue ∧ ∀ o, O5 = some o → w3.heap.size ≤ o, fun v _ => v = .agg (wrC x), fun v wx => ∃ b, (v = .slice (some ⟨b, 0, none⟩) 1 1 ∧ w3.heap.size ≤ b) ∧ wx.heap[b]? = some (.cells (wrC x) 41 (0, 0))])        (stab_cons (stab_const _) (stab_cons (stab_const _) (stab_cons (fun _ _ _ k ⟨a5, cap5, O5, q1, q2, q3⟩ => ⟨a5, cap5, O5, q1, q2.kept k (fun _ _ x => x) (fun _ _ x => x), q3⟩) (stab_cons (stab_const _) (stab_cons (stab_blk (fun b v => v = .slice (some ⟨b, 0, none⟩) 1 1 ∧ w3.heap.size ≤ b) (fun b => b) (fun b => .cells (wrC x) 41 (0, 0))) stab_nil)))))
    have hist := init_stab (inits := []) (fun p h => by cases h)
    have HST := Lib.hid hst
    have HIST := Lib.hid hist
    clear hst hist
    rcases (show i = 0 ∨ i = 1 ∨ i = 2 ∨ i = 3 ∨ i = 4 by omega) with rfl | rfl | rfl | rfl | rfl
    · refine asks_intro ?_; intro o ho a wx hc hout hp hi R hR; cases ho
      have e2 : a.tmps[2]? = some (.pointer (some ⟨w.heap.size, 0, none⟩)) := hout 2 rfl
      go_simp
      exact hR _ _ hc rfl (fun _ _ _ _ _ u h => h) (fun _ _ h => h)
    · refine asks_intro ?_; intro o ho a wx hc hout hp hi R hR; cases ho
      have e32 : a.tmps[32]?.getD undef = .pointer (some ⟨w.heap.size, 3, none⟩) := hp 0 (by omega) rfl
      have y3 := cell_blk (hc.blk E0.out (fun x => x)) 3 _ dv3
      go_simp
      exact hR _ _ hc rfl (fun _ _ _ _ _ u h => h) (fun _ _ h => h)
    · refine asks_intro ?_; intro o ho a wx hc hout hp hi R hR; cases ho
      have e33 : a.tmps[33]?.getD undef = .slice qa d.queue.length qc := hp 1 (by omega) rfl
      go_simp
      refine (clonew_ok _ d.queue M wx (RQ3.out.kept hc.of_no (fun _ _ x => x)) (by omega)).mono ?_
      rintro e w2 ⟨a5, cap5, O5, rfl, q1, q2, q3⟩
      exact ⟨_, rfl, hR _ _ (hc.trans q3) ⟨a5, cap5, O5, rfl, q1, fun o ho => by rcases q2 with q2 | ⟨g2, q2, q4⟩; exact absurd (q2.symm.trans ho) (by simp); exact Nat.le_trans hc.size (by rw [ho] at q2; cases q2; exact q4)⟩ (fun j _ _ _ _ u h => HST.out j u _ _ q3 h) (fun j _ h => HIST.out j _ _ q3 h)⟩
    · refine asks_intro ?_; intro o ho a wx hc hout hp hi R hR; cases ho
      have e3 : a.tmps[3]? = some (.pointer (some ⟨w.heap.size + 1, 0, none⟩)) := hout 3 rfl
      refine gives_load_big bigWr (.tmp 3) rfl (w.heap.size + 1) 0 (wrC x) (by go_simp) (range_blk (hc.blk E1.out (fun x => x))) rfl ?_
      exact hR _ _ hc rfl (fun _ _ _ _ _ u h => h) (fun _ _ h => h)
    · refine asks_intro ?_; intro o ho a wx hc hout hp hi R hR; cases ho
      have e35 : a.tmps[35]?.getD undef = .agg (wrC x) := hp 3 (by omega) rfl
      go_simp
      exact hR _ _ (hc.alloc _) ⟨_, ⟨rfl, hc.size⟩, blk_new _ _⟩ (fun j _ _ _ _ u h => HST.out j u _ _ ((Kept.refl _ _).alloc _) h) (fun j _ h => HIST.out j _ _ ((Kept.refl _ _).alloc _) h)
  · intro vs w' hc hp
    have e32 : vs 0 = .pointer (some ⟨w.heap.size, 3, none⟩) := hp 0 (by omega) rfl
    have e33 : vs 1 = .slice qa d.queue.length qc := hp 1 (by omega) rfl
    obtain ⟨a5, cap5, O5, e34, o5, n5⟩ : ∃ a5 cap5 O5, vs 2 = .slice a5 d.queue.length cap5 ∧ OwnS w' O5 41 26 EWr (.slice a5 d.queue.length cap5) d.queue ∧ ∀ o, O5 = some o → w3.heap.size ≤ o := hp 2 (by omega) rfl
    have e35 : vs 3 = .agg (wrC x) := hp 3 (by omega) rfl
    obtain ⟨b, e36, hb36⟩ : ∃ b, (vs 4 = .slice (some ⟨b, 0, none⟩) 1 1 ∧ w3.heap.size ≤ b) ∧ w'.heap[b]? = some (.cells (wrC x) 41 (0, 0)) := hp 4 (by omega) rfl
    simp only [List.take_succ_cons, List.take_zero, List.drop_succ_cons, List.drop_zero, putAll, Act.put, List.setIfInBounds_toArray, List.set_cons_zero, List.set_cons_succ, Nat.reduceAdd, e32, e33, e35]
    obtain ⟨e36, hb36w⟩ := e36
    rw [e34, e36]
    change wpList _ _ _ _ _ _
    have HO := Lib.hid o5
    have HN5 := Lib.hid n5
    have KC := Lib.hid hc
    have HAB := Lib.hid hb36
    have HBW := Lib.hid hb36w
    have HD8 := Lib.hid (hc.blk E0.out (fun x => x))
    have HX8 := Lib.hid (hc.blk E1.out (fun x => x))
    have HZ8 := Lib.hid (hc.blk E4.out (fun x => x))
    clear hc hp o5 n5 hb36 hb36w e32 e33 e35
    have RD1 := Lib.hid (rd_one (M := NoM) (sz := 26) (E := EWr) (x := x) HAB.out (fun x => x) rfl rfl)
    generalize hWE : w' = we at *
    have hzW := lt_of_block E4.out
    go_wp2_with (first | (at_builtin; go_loud (refine wpList_append_S (M := NoM) rfl (.tmp 34) (.tmp 36) 24 rfl 224 tyWrites _ rfl HO.out _ rfl RD1.out eWr_one d.queue.length 1 rfl rfl (by unfold maxLen; omega) (by omega) ?_; intro a8 cap8 w8 O8 hown hkk hnn; have hO8 : ∀ g, O8 = some g → w3.heap.size ≤ g := newO_ge HN5.out KC.out.size hnn; have HD7 := Lib.hid (hkk.blk HD8.out (fun e => absurd (HN5.out _ e.symm) (by omega))); have y71 := cell_blk HD7.out 3 _ dv3; have y72 := free_blk HD7.out 3; have HX7 := Lib.hid (hkk.blk HX8.out (fun e => absurd (HN5.out _ e.symm) (by omega))); have HZ7 := Lib.hid (hkk.blk HZ8.out (fun e => absurd (HN5.out _ e.symm) (by omega))); have HD9 := Lib.hid (show (w8.setCell ⟨w.heap.size, 3, none⟩ (.slice a8 (d.queue.length + 1) cap8)).heap[w.heap.size]? = some (.cells (devC ({ d with queue := d.queue ++ [x] } : Dev) ta tc a8 cap8 da dc la lc) 27 (0, 0)) from (blk_set HD7.out _).trans (by simp [devC])); have HX9 := Lib.hid (blk_set_ne (i := 3) HX7.out (show w.heap.size + 1 ≠ w.heap.size by omega) (.slice a8 (d.queue.length + 1) cap8)); have HZ9 := Lib.hid (blk_set_ne (i := 3) HZ7.out (show w.heap.size + 2 ≠ w.heap.size by omega) (.slice a8 (d.queue.length + 1) cap8)); have R7 := Lib.hid (hown.rd (M := fun i => i < w3.heap.size) (fun g hg => by have := hO8 g hg; omega)); have K7 : Hid (Kept NoM w w8) := Lib.hid ((K3.out.trans KC.out).trans' hkk (fun i hi e => absurd (HN5.out _ e.symm) (by have := K3.out.size; omega))); have K9 : Hid (Kept NoM w (w8.setCell ⟨w.heap.size, 3, none⟩ (.slice a8 (d.queue.length + 1) cap8))) := Lib.hid (K7.out.setCell (fun h => absurd h (Nat.lt_irrefl _)) _); have R9 := Lib.hid (R7.out.kept ((Kept.refl _ w8).setCell (p := ⟨w.heap.size, 3, none⟩) (fun _ => (show w.heap.size < w3.heap.size by omega)) (.slice a8 (d.queue.length + 1) cap8)) (fun _ _ x => x)); clear hown hkk hnn hO8)) | (refine wpList_load_big bigDev rfl _ rfl w.heap.size 0 (devC ({ d with queue := d.queue ++ [x] } : Dev) ta tc a8 cap8 da dc la lc) rfl (range_blk (by first | exact G0.out | exact HD9.out)) rfl ?_) | (refine wpList_load_big bigWr rfl _ rfl (w.heap.size + 1) 0 (wrC x) rfl (range_blk HX9.out) rfl ?_) | (go_at_call 53; refine (early_ok (({ d with queue := d.queue ++ [x] } : Dev)) x ta a8 da la tc cap8 dc lc _).mono ?_; rw [HE.out]; rintro e w4 ⟨rfl, k4⟩; have K4 := Lib.hid (K9.out.trans k4); have G0 := Lib.hid (k4.blk HD9.out (fun x => x)); have G1 := Lib.hid (k4.blk HX9.out (fun x => x)); have G4 := Lib.hid (k4.blk HZ9.out (fun x => x)); have R4 := Lib.hid (R9.out.kept k4.of_no (fun _ _ x => x)); have hz4 := lt_of_block G4.out; clear k4)      | (refine wpList_store_bigb (cs := devC ({ d with queue := d.queue ++ [x] } : Dev) ta tc a8 cap8 da dc la lc) bigDev rfl _ _ rfl (w.heap.size + 2) rfl rfl G4.out rfl rfl (dev1 _ _ _ _ _ _ _ _ _) ?_))
    have GB := Lib.hid (putB_blk w4 (w.heap.size + 2) (devC ({ d with queue := d.queue ++ [x] } : Dev) ta tc a8 cap8 da dc la lc) 27 (lt_of_block G4.out))
    have KX := Lib.hid (K4.out.putN (b := w.heap.size + 2) (by omega) (devC ({ d with queue := d.queue ++ [x] } : Dev) ta tc a8 cap8 da dc la lc) 27)
    have QQ := Lib.hid (RdS.len (show d.queue.length + 1 = (d.queue ++ [x]).length by simp) ((R4.out.kept ((Kept.refl (fun i => i < w3.heap.size) w4).putM (b := w.heap.size + 2) (show w.heap.size + 2 < w3.heap.size by omega) (devC ({ d with queue := d.queue ++ [x] } : Dev) ta tc a8 cap8 da dc la lc) 27) (fun _ _ x => x)).mono (fun i _ h => by have := HM.out i h; show i < w3.heap.size; omega) (by omega) (fun _ _ x => x)))
    generalize putB w4 (w.heap.size + 2) (devC ({ d with queue := d.queue ++ [x] } : Dev) ta tc a8 cap8 da dc la lc) 27 = wx at *
    have hl0 : _root_.Go.World.cell? _ ⟨w.heap.size + 1 + 1, 0, none⟩ = _ := cell_blk GB.out 0 _ dv0
    have hl1 : _root_.Go.World.cell? _ ⟨w.heap.size + 1 + 1, 1, none⟩ = _ := cell_blk GB.out 1 _ dv1
    have hl2 : _root_.Go.World.cell? _ ⟨w.heap.size + 1 + 1, 2, none⟩ = _ := cell_blk GB.out 2 _ dv2
    have hl3 : _root_.Go.World.cell? _ ⟨w.heap.size + 1 + 1, 3, none⟩ = _ := cell_blk GB.out 3 _ dv3
    have hl4 : _root_.Go.World.cell? _ ⟨w.heap.size + 1 + 1, 4, none⟩ = _ := cell_blk GB.out 4 _ dv4
    have hl5 : _root_.Go.World.cell? _ ⟨w.heap.size + 1 + 1, 5, none⟩ = _ := cell_blk GB.out 5 _ dv5
    have hl6 : _root_.Go.World.cell? _ ⟨w.heap.size + 1 + 1, 6, none⟩ = _ := cell_blk GB.out 6 _ dv6
    refine bodyPost_ret (v := .tuple #[.agg (devC ({ d with queue := d.queue ++ [x] } : Dev) ta tc a8 cap8 da dc la lc), .slice none 0 0, .int .i64 0]) (by simp [results, Try.results17, go_sem, devC, hl0, hl1, hl2, hl3, hl4, hl5, hl6]) rfl ?_
    refine ⟨_, _, rfl, ⟨ta, tc, a8, cap8, da, dc, la, lc, rfl, (HH.out.kept KX.out.of_no).rt, QQ.out, (HH.out.kept KX.out.of_no).rd, (HH.out.kept KX.out.of_no).rl⟩, acks_nil, KX.out⟩
end Go.Proofs.Ytghgegghlefclaa
