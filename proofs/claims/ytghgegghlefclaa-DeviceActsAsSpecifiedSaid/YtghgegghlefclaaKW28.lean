/- Walks: Receive of the program. -/
import Derived.Test.YtghgegghlefclaaKV3
import Derived.Test.YtghgegghlefclaaKW7
import Derived.Test.YtghgegghlefclaaKW4
import Derived.Test.YtghgegghlefclaaKW3
set_option linter.unusedVariables false
set_option linter.unusedSimpArgs false
set_option linter.unusedSectionVars false
namespace Go.Proofs.Ytghgegghlefclaa
open Go.RowKit
set_option maxHeartbeats 4000000
set_option maxRecDepth 8000
theorem recvc_ok (x : Wr) (e : Int) (g : Nat) (w : World) (h : w.heap[g]? = some (.cells (wrC x) 41 (0, 0))) : Calls Try.prog 55 #[.int .i64 e, .pointer (some ⟨g, 0, none⟩)] w fun en w' => ∃ b, en = .returned (.slice (some ⟨b, 0, none⟩) 1 1) ∧ w.heap.size ≤ b ∧ w'.heap[b]? = some (.cells #[.int .i64 x.ep, .int .i64 x.seq, .int .i64 e] 60 (0, 0)) ∧ Kept NoM w w' := by
  have x0 := cell_blk h 0 _ (wrC_0 x)
  have x1 := cell_blk h 1 _ (wrC_1 x)
  have hg := lt_of_block h
  clear h
  go_enter Try.func55, Try.ntmps55
  go_wp2_with fail
  go_ret
  exact ⟨w.heap.size, rfl, Nat.le_refl _, blk_new _ _, (Kept.refl _ _).alloc _⟩
/-- what Receive does: the device, the acks *-/
def RecvPost (M : Nat → Prop) (w : World) (D : Dev) (A : List Ak) (e : Ending) (w' : World) : Prop := ∃ v av, e = .returned (.tuple #[v, av, .int .i64 0]) ∧ DevV w' M v D ∧ RdS w' M 3 EAk av A ∧ Kept NoM w w'
theorem recv_less (d : Dev) (x : Wr) (ta qa da la : Option Addr) (tc qc dc lc : Nat) (M : Nat → Prop) (w : World) (h : DevR w M d ta tc qa qc da dc la lc) (hM : ∀ i, M i → i < w.heap.size) (hql : d.queue.length ≤ 1000) (hdl : d.done.length ≤ 1000)
    (hF : ∀ wx, Kept NoM w wx → Calls Try.prog 41 #[.agg (wrC x)] wx fun e w' => e = .returned (.bool true) ∧ Kept NoM wx w') (hep : x.ep < d.ep) :
    Calls Try.prog 17 #[.agg (devC d ta tc qa qc da dc la lc), .agg (wrC x)] w (RecvPost M w (d) ([⟨x.ep, x.seq, 22⟩])) := by
  have KB := Lib.hid ((((Kept.refl NoM w).alloc (.cells (devC d ta tc qa qc da dc la lc) 27)).alloc (.cells (wrC x) 41)).alloc (.cells devZC 27))
  have B0 := Lib.hid (blk_old (blk_old (blk_new w (.cells (devC d ta tc qa qc da dc la lc) 27)) (.cells (wrC x) 41)) (.cells devZC 27))
  have B1 := Lib.hid (blk_old (blk_new' (w.alloc (.cells (devC d ta tc qa qc da dc la lc) 27)) (.cells (wrC x) 41) (w.heap.size + 1) (by simp)) (.cells devZC 27))
  have B4 := Lib.hid (blk_new' ((w.alloc (.cells (devC d ta tc qa qc da dc la lc) 27)).alloc (.cells (wrC x) 41)) (.cells devZC 27) (w.heap.size + 2) (by simp))
  have FM := Lib.hid (hF _ KB.out)
  have HH := Lib.hid h
  have HM := Lib.hid hM
  have RC : Hid (∀ e wx, wx.heap[w.heap.size + 1]? = some (.cells (wrC x) 41 (0, 0)) → Calls Try.prog 55 #[.int .i64 e, .pointer (some ⟨w.heap.size + 1, 0, none⟩)] wx fun en w' => ∃ b, en = .returned (.slice (some ⟨b, 0, none⟩) 1 1) ∧ wx.heap.size ≤ b ∧ w'.heap[b]? = some (.cells #[.int .i64 x.ep, .int .i64 x.seq, .int .i64 e] 60 (0, 0)) ∧ Kept NoM wx w') := Lib.hid (fun e wx hx => recvc_ok x e _ wx hx)
  clear h hM hF
  go_enter Try.func17, Try.ntmps17
  go_wp2_with (first
      | (refine wpList_alloc_Z rfl 27 rfl _ (devZ _) ?_)
      | (refine wpList_load_big bigWr rfl _ rfl (w.heap.size + 1) 0 (wrC x) rfl (range_blk (by first | exact B1.out | exact C1.out | exact E1.out)) rfl ?_)
      | (go_at_call 41; refine FM.out.mono ?_; rintro e w1 ⟨rfl, k1⟩; have K1 := Lib.hid (KB.out.trans k1); have C0 := Lib.hid (k1.blk B0.out (fun x => x)); have C1 := Lib.hid (k1.blk B1.out (fun x => x)); have C4 := Lib.hid (k1.blk B4.out (fun x => x)); have hz1 := lt_of_block C4.out; have v0 := cell_blk C1.out 0 _ (wrC_0 x); have v1 := cell_blk C1.out 1 _ (wrC_1 x); have u1 := cell_blk C0.out 1 _ dv1; clear k1))
  refine wp_region_par 4 [] [] [] [] [] (fun wx => CF w1 (w.heap.size + 2) wx)
        [fun v _ => v = .agg (devC d ta tc qa qc da dc la lc), fun v _ => v = .func (.func 55) #[] #[.pointer (some ⟨w.heap.size + 1, 0, none⟩)], fun v wx => ∃ b, (v = .slice (some ⟨b, 0, none⟩) 1 1 ∧ w1.heap.size ≤ b) ∧ wx.heap[b]? = some (.cells #[.int .i64 x.ep, .int .i64 x.seq, .int .i64 22] 60 (0, 0)), fun _ wx => wx.heap[w.heap.size + 2]? = some (.cells (devC d ta tc qa qc da dc la lc) 27 (0, 0))] (by kernel_rfl) (by kernel_rfl) (by kernel_rfl) (CF.refl rfl C4.out).drew (inits_nil) ?_ ?_
  · intro i hi9
    have hst := stab_all (posts := [fun v _ => v = .agg (devC d ta tc qa qc da dc la lc), fun v _ => v = .func (.func 55) #[] #[.pointer (some ⟨w.heap.size + 1, 0, none⟩)], fun v wx => ∃ b, (v = .slice (some ⟨b, 0, none⟩) 1 1 ∧ w1.heap.size ≤ b) ∧ wx.heap[b]? = some (.cells #[.int .i64 x.ep, .int .i64 x.seq, .int .i64 22] 60 (0, 0)), fun _ wx => wx.heap[w.heap.size + 2]? = some (.cells (devC d ta tc qa qc da dc la lc) 27 (0, 0))])        (stab_cons (stab_const _) (stab_cons (stab_const _) (stab_cons (stab_blk (fun b v => v = .slice (some ⟨b, 0, none⟩) 1 1 ∧ w1.heap.size ≤ b) (fun b => b) (fun b => .cells #[.int .i64 x.ep, .int .i64 x.seq, .int .i64 22] 60 (0, 0))) (stab_cons (fun _ _ _ k h => k.blk h (fun x => x)) stab_nil))))
    have hist := init_stab (inits := []) (fun p h => by cases h)
    have HST := Lib.hid hst
    have HIST := Lib.hid hist
    clear hst hist
    rcases (show i = 0 ∨ i = 1 ∨ i = 2 ∨ i = 3 by omega) with rfl | rfl | rfl | rfl
    · refine asks_intro ?_; intro o ho a wx hc hout hp hi R hR; cases ho
      have e2 : a.tmps[2]? = some (.pointer (some ⟨w.heap.size, 0, none⟩)) := hout 2 rfl
      refine gives_load_big bigDev (.tmp 2) rfl w.heap.size 0 (devC d ta tc qa qc da dc la lc) (by go_simp) (range_blk (hc.blk C0.out (by omega))) rfl ?_
      exact hR _ _ hc rfl (fun _ _ _ _ _ u h => h) (fun _ _ h => h)
    · refine asks_intro ?_; intro o ho a wx hc hout hp hi R hR; cases ho
      have e7 : a.tmps[7]? = some (.func (.func 55) #[] #[.pointer (some ⟨w.heap.size + 1, 0, none⟩)]) := hout 7 rfl
      go_simp
      exact hR _ _ hc rfl (fun _ _ _ _ _ u h => h) (fun _ _ h => h)
    · refine asks_intro ?_; intro o ho a wx hc hout hp hi R hR; cases ho
      have e19 : a.tmps[19]?.getD undef = .func (.func 55) #[] #[.pointer (some ⟨w.heap.size + 1, 0, none⟩)] := hp 1 (by omega) rfl
      go_simp
      refine (RC.out 22 wx (hc.blk C1.out (by omega))).mono ?_
      rintro e w2 ⟨b, rfl, q1, q2, q3⟩
      exact ⟨_, rfl, hR _ _ (hc.kept q3) ⟨b, ⟨rfl, Nat.le_trans hc.1.size q1⟩, q2⟩ (fun j _ _ _ _ u h => HST.out j u _ _ q3 h) (fun j _ h => HIST.out j _ _ q3 h)⟩
    · refine asks_intro ?_; intro o ho a wx hc hout hp hi R hR; cases ho
      have e18 : a.tmps[18]?.getD undef = .agg (devC d ta tc qa qc da dc la lc) := hp 0 (by omega) rfl
      have e4 : a.tmps[4]? = some (.pointer (some ⟨w.heap.size + 2, 0, none⟩)) := hout 4 rfl
      obtain ⟨hck, z9, hz7, hz9⟩ := hc
      refine gives_store_bigb (cs := devC d ta tc qa qc da dc la lc) bigDev (.tmp 4) (.tmp 18) rfl (w.heap.size + 2) (by go_simp) (by go_simp) hz9 hz7 rfl (dev1 _ _ _ _ _ _ _ _ _) ?_
      refine hR _ _ (CF.put ⟨hck, z9, hz7, hz9⟩ _ rfl) (putB_blk _ _ _ _ (lt_of_block hz9)) (fun j hj hne hcn hwf u h => ?_) (fun q hq h => ?_)
      · rcases (show j = 0 ∨ j = 1 ∨ j = 2 ∨ j = 3 by omega) with rfl | rfl | rfl | rfl <;> first | exact h | exact absurd hcn (by decide) | exact absurd rfl hne | (obtain ⟨b, ⟨q1, q2⟩, q3⟩ := h; have q2 : w1.heap.size ≤ b := q2; have hz4 := lt_of_block C4.out; exact ⟨b, ⟨q1, q2⟩, (putB_blk_ne _ _ _ _ _ (by omega)).trans q3⟩)
      · trivial
  · intro vs w' hc hp
    have e18 : vs 0 = .agg (devC d ta tc qa qc da dc la lc) := hp 0 (by omega) rfl
    have e19 : vs 1 = .func (.func 55) #[] #[.pointer (some ⟨w.heap.size + 1, 0, none⟩)] := hp 1 (by omega) rfl
    obtain ⟨b, e20, hb20⟩ : ∃ b, (vs 2 = .slice (some ⟨b, 0, none⟩) 1 1 ∧ w1.heap.size ≤ b) ∧ w'.heap[b]? = some (.cells #[.int .i64 x.ep, .int .i64 x.seq, .int .i64 22] 60 (0, 0)) := hp 2 (by omega) rfl
    obtain ⟨_, hbg3⟩ : ∃ _ : Value, w'.heap[w.heap.size + 2]? = some (.cells (devC d ta tc qa qc da dc la lc) 27 (0, 0)) := hp 3 (by omega) rfl
    simp only [List.take_succ_cons, List.take_zero, List.drop_succ_cons, List.drop_zero, putAll, Act.put, List.setIfInBounds_toArray, List.set_cons_zero, List.set_cons_succ, Nat.reduceAdd, e18, e19]
    obtain ⟨e20, hsb⟩ := e20
    rw [e20]
    change wpList _ _ _ _ _ _
    have HB4 := Lib.hid hbg3
    have HAK := Lib.hid hb20
    have HC9 := Lib.hid hc
    clear hbg3 hb20 hc hp
    go_wp2_with fail
    have hl0 : _root_.Go.World.cell? _ ⟨w.heap.size + 1 + 1, 0, none⟩ = _ := cell_blk HB4.out 0 _ dv0
    have hl1 : _root_.Go.World.cell? _ ⟨w.heap.size + 1 + 1, 1, none⟩ = _ := cell_blk HB4.out 1 _ dv1
    have hl2 : _root_.Go.World.cell? _ ⟨w.heap.size + 1 + 1, 2, none⟩ = _ := cell_blk HB4.out 2 _ dv2
    have hl3 : _root_.Go.World.cell? _ ⟨w.heap.size + 1 + 1, 3, none⟩ = _ := cell_blk HB4.out 3 _ dv3
    have hl4 : _root_.Go.World.cell? _ ⟨w.heap.size + 1 + 1, 4, none⟩ = _ := cell_blk HB4.out 4 _ dv4
    have hl5 : _root_.Go.World.cell? _ ⟨w.heap.size + 1 + 1, 5, none⟩ = _ := cell_blk HB4.out 5 _ dv5
    have hl6 : _root_.Go.World.cell? _ ⟨w.heap.size + 1 + 1, 6, none⟩ = _ := cell_blk HB4.out 6 _ dv6
    refine bodyPost_ret (v := .tuple #[.agg (devC d ta tc qa qc da dc la lc), .slice (some ⟨b, 0, none⟩) 1 1, .int .i64 0]) (by simp [results, Try.results17, go_sem, devC, hl0, hl1, hl2, hl3, hl4, hl5, hl6]) rfl ?_
    refine ⟨_, _, rfl, ⟨ta, tc, qa, qc, da, dc, la, lc, rfl, HH.out.kept (HC9.out.no K1.out (by omega)).of_no⟩, acks_one (a := ⟨x.ep, x.seq, 22⟩) HAK.out HM.out (by have := K1.out.size; omega), HC9.out.no K1.out (by omega)⟩
theorem recv_done (d : Dev) (x : Wr) (ta qa da la : Option Addr) (tc qc dc lc : Nat) (M : Nat → Prop) (w : World) (h : DevR w M d ta tc qa qc da dc la lc) (hM : ∀ i, M i → i < w.heap.size) (hql : d.queue.length ≤ 1000) (hdl : d.done.length ≤ 1000)
    (hF : ∀ wx, Kept NoM w wx → Calls Try.prog 41 #[.agg (wrC x)] wx fun e w' => e = .returned (.bool true) ∧ Kept NoM wx w') (hep : x.ep = d.ep) (hh : hasI d.done x.seq = true) :
    Calls Try.prog 17 #[.agg (devC d ta tc qa qc da dc la lc), .agg (wrC x)] w (RecvPost M w (d) ([⟨x.ep, x.seq, 0⟩])) := by
  have KB := Lib.hid ((((Kept.refl NoM w).alloc (.cells (devC d ta tc qa qc da dc la lc) 27)).alloc (.cells (wrC x) 41)).alloc (.cells devZC 27))
  have B0 := Lib.hid (blk_old (blk_old (blk_new w (.cells (devC d ta tc qa qc da dc la lc) 27)) (.cells (wrC x) 41)) (.cells devZC 27))
  have B1 := Lib.hid (blk_old (blk_new' (w.alloc (.cells (devC d ta tc qa qc da dc la lc) 27)) (.cells (wrC x) 41) (w.heap.size + 1) (by simp)) (.cells devZC 27))
  have B4 := Lib.hid (blk_new' ((w.alloc (.cells (devC d ta tc qa qc da dc la lc) 27)).alloc (.cells (wrC x) 41)) (.cells devZC 27) (w.heap.size + 2) (by simp))
  have FM := Lib.hid (hF _ KB.out)
  have HH := Lib.hid h
  have HM := Lib.hid hM
  have RC : Hid (∀ e wx, wx.heap[w.heap.size + 1]? = some (.cells (wrC x) 41 (0, 0)) → Calls Try.prog 55 #[.int .i64 e, .pointer (some ⟨w.heap.size + 1, 0, none⟩)] wx fun en w' => ∃ b, en = .returned (.slice (some ⟨b, 0, none⟩) 1 1) ∧ wx.heap.size ≤ b ∧ w'.heap[b]? = some (.cells #[.int .i64 x.ep, .int .i64 x.seq, .int .i64 e] 60 (0, 0)) ∧ Kept NoM wx w') := Lib.hid (fun e wx hx => recvc_ok x e _ wx hx)
  clear h hM hF
  have f1 : ¬ x.ep < d.ep := by omega
  have f2 : ¬ x.ep > d.ep := by omega
  clear hep
  have HS := Lib.hid hh
  clear hh
  go_enter Try.func17, Try.ntmps17
  go_wp2_with (first
      | (refine wpList_alloc_Z rfl 27 rfl _ (devZ _) ?_)
      | (refine wpList_load_big bigWr rfl _ rfl (w.heap.size + 1) 0 (wrC x) rfl (range_blk (by first | exact B1.out | exact C1.out | exact E1.out)) rfl ?_)
      | (go_at_call 41; refine FM.out.mono ?_; rintro e w1 ⟨rfl, k1⟩; have K1 := Lib.hid (KB.out.trans k1); have C0 := Lib.hid (k1.blk B0.out (fun x => x)); have C1 := Lib.hid (k1.blk B1.out (fun x => x)); have C4 := Lib.hid (k1.blk B4.out (fun x => x)); have hz1 := lt_of_block C4.out; have v0 := cell_blk C1.out 0 _ (wrC_0 x); have v1 := cell_blk C1.out 1 _ (wrC_1 x); have u1 := cell_blk C0.out 1 _ dv1; have u4 := cell_blk C0.out 4 _ dv4; clear k1)
      | (go_at_call 47; refine (hasints_ok _ d.done M x.seq _ (HH.out.rd.kept K1.out.of_no (fun _ _ x => x)) (by omega)).mono ?_; rw [HS.out]; rintro e w2 ⟨rfl, rfl⟩))
  refine wp_region_par 4 [] [] [] [] [] (fun wx => CF w1 (w.heap.size + 2) wx)
        [fun v _ => v = .agg (devC d ta tc qa qc da dc la lc), fun v _ => v = .func (.func 55) #[] #[.pointer (some ⟨w.heap.size + 1, 0, none⟩)], fun v wx => ∃ b, (v = .slice (some ⟨b, 0, none⟩) 1 1 ∧ w1.heap.size ≤ b) ∧ wx.heap[b]? = some (.cells #[.int .i64 x.ep, .int .i64 x.seq, .int .i64 0] 60 (0, 0)), fun _ wx => wx.heap[w.heap.size + 2]? = some (.cells (devC d ta tc qa qc da dc la lc) 27 (0, 0))] (by kernel_rfl) (by kernel_rfl) (by kernel_rfl) (CF.refl rfl C4.out).drew (inits_nil) ?_ ?_
  · intro i hi9
    have hst := stab_all (posts := [fun v _ => v = .agg (devC d ta tc qa qc da dc la lc), fun v _ => v = .func (.func 55) #[] #[.pointer (some ⟨w.heap.size + 1, 0, none⟩)], fun v wx => ∃ b, (v = .slice (some ⟨b, 0, none⟩) 1 1 ∧ w1.heap.size ≤ b) ∧ wx.heap[b]? = some (.cells #[.int .i64 x.ep, .int .i64 x.seq, .int .i64 0] 60 (0, 0)), fun _ wx => wx.heap[w.heap.size + 2]? = some (.cells (devC d ta tc qa qc da dc la lc) 27 (0, 0))])        (stab_cons (stab_const _) (stab_cons (stab_const _) (stab_cons (stab_blk (fun b v => v = .slice (some ⟨b, 0, none⟩) 1 1 ∧ w1.heap.size ≤ b) (fun b => b) (fun b => .cells #[.int .i64 x.ep, .int .i64 x.seq, .int .i64 0] 60 (0, 0))) (stab_cons (fun _ _ _ k h => k.blk h (fun x => x)) stab_nil))))
    have hist := init_stab (inits := []) (fun p h => by cases h)
    have HST := Lib.hid hst
    have HIST := Lib.hid hist
    clear hst hist
    rcases (show i = 0 ∨ i = 1 ∨ i = 2 ∨ i = 3 by omega) with rfl | rfl | rfl | rfl
    · refine asks_intro ?_; intro o ho a wx hc hout hp hi R hR; cases ho
      have e2 : a.tmps[2]? = some (.pointer (some ⟨w.heap.size, 0, none⟩)) := hout 2 rfl
      refine gives_load_big bigDev (.tmp 2) rfl w.heap.size 0 (devC d ta tc qa qc da dc la lc) (by go_simp) (range_blk (hc.blk C0.out (by omega))) rfl ?_
      exact hR _ _ hc rfl (fun _ _ _ _ _ u h => h) (fun _ _ h => h)
    · refine asks_intro ?_; intro o ho a wx hc hout hp hi R hR; cases ho
      have e7 : a.tmps[7]? = some (.func (.func 55) #[] #[.pointer (some ⟨w.heap.size + 1, 0, none⟩)]) := hout 7 rfl
      go_simp
      exact hR _ _ hc rfl (fun _ _ _ _ _ u h => h) (fun _ _ h => h)
    · refine asks_intro ?_; intro o ho a wx hc hout hp hi R hR; cases ho
      have e46 : a.tmps[46]?.getD undef = .func (.func 55) #[] #[.pointer (some ⟨w.heap.size + 1, 0, none⟩)] := hp 1 (by omega) rfl
      go_simp
      refine (RC.out 0 wx (hc.blk C1.out (by omega))).mono ?_
      rintro e w2 ⟨b, rfl, q1, q2, q3⟩
      exact ⟨_, rfl, hR _ _ (hc.kept q3) ⟨b, ⟨rfl, Nat.le_trans hc.1.size q1⟩, q2⟩ (fun j _ _ _ _ u h => HST.out j u _ _ q3 h) (fun j _ h => HIST.out j _ _ q3 h)⟩
    · refine asks_intro ?_; intro o ho a wx hc hout hp hi R hR; cases ho
      have e45 : a.tmps[45]?.getD undef = .agg (devC d ta tc qa qc da dc la lc) := hp 0 (by omega) rfl
      have e4 : a.tmps[4]? = some (.pointer (some ⟨w.heap.size + 2, 0, none⟩)) := hout 4 rfl
      obtain ⟨hck, z9, hz7, hz9⟩ := hc
      refine gives_store_bigb (cs := devC d ta tc qa qc da dc la lc) bigDev (.tmp 4) (.tmp 45) rfl (w.heap.size + 2) (by go_simp) (by go_simp) hz9 hz7 rfl (dev1 _ _ _ _ _ _ _ _ _) ?_
      refine hR _ _ (CF.put ⟨hck, z9, hz7, hz9⟩ _ rfl) (putB_blk _ _ _ _ (lt_of_block hz9)) (fun j hj hne hcn hwf u h => ?_) (fun q hq h => ?_)
      · rcases (show j = 0 ∨ j = 1 ∨ j = 2 ∨ j = 3 by omega) with rfl | rfl | rfl | rfl <;> first | exact h | exact absurd hcn (by decide) | exact absurd rfl hne | (obtain ⟨b, ⟨q1, q2⟩, q3⟩ := h; have q2 : w1.heap.size ≤ b := q2; have hz4 := lt_of_block C4.out; exact ⟨b, ⟨q1, q2⟩, (putB_blk_ne _ _ _ _ _ (by omega)).trans q3⟩)
      · trivial
  · intro vs w' hc hp
    have e45 : vs 0 = .agg (devC d ta tc qa qc da dc la lc) := hp 0 (by omega) rfl
    have e46 : vs 1 = .func (.func 55) #[] #[.pointer (some ⟨w.heap.size + 1, 0, none⟩)] := hp 1 (by omega) rfl
    obtain ⟨b, e47, hb47⟩ : ∃ b, (vs 2 = .slice (some ⟨b, 0, none⟩) 1 1 ∧ w1.heap.size ≤ b) ∧ w'.heap[b]? = some (.cells #[.int .i64 x.ep, .int .i64 x.seq, .int .i64 0] 60 (0, 0)) := hp 2 (by omega) rfl
    obtain ⟨_, hbg3⟩ : ∃ _ : Value, w'.heap[w.heap.size + 2]? = some (.cells (devC d ta tc qa qc da dc la lc) 27 (0, 0)) := hp 3 (by omega) rfl
    simp only [List.take_succ_cons, List.take_zero, List.drop_succ_cons, List.drop_zero, putAll, Act.put, List.setIfInBounds_toArray, List.set_cons_zero, List.set_cons_succ, Nat.reduceAdd, e45, e46]
    obtain ⟨e47, hsb⟩ := e47
    rw [e47]
    change wpList _ _ _ _ _ _
    have HB4 := Lib.hid hbg3
    have HAK := Lib.hid hb47
    have HC9 := Lib.hid hc
    clear hbg3 hb47 hc hp
    go_wp2_with fail
    have hl0 : _root_.Go.World.cell? _ ⟨w.heap.size + 1 + 1, 0, none⟩ = _ := cell_blk HB4.out 0 _ dv0
    have hl1 : _root_.Go.World.cell? _ ⟨w.heap.size + 1 + 1, 1, none⟩ = _ := cell_blk HB4.out 1 _ dv1
    have hl2 : _root_.Go.World.cell? _ ⟨w.heap.size + 1 + 1, 2, none⟩ = _ := cell_blk HB4.out 2 _ dv2
    have hl3 : _root_.Go.World.cell? _ ⟨w.heap.size + 1 + 1, 3, none⟩ = _ := cell_blk HB4.out 3 _ dv3
    have hl4 : _root_.Go.World.cell? _ ⟨w.heap.size + 1 + 1, 4, none⟩ = _ := cell_blk HB4.out 4 _ dv4
    have hl5 : _root_.Go.World.cell? _ ⟨w.heap.size + 1 + 1, 5, none⟩ = _ := cell_blk HB4.out 5 _ dv5
    have hl6 : _root_.Go.World.cell? _ ⟨w.heap.size + 1 + 1, 6, none⟩ = _ := cell_blk HB4.out 6 _ dv6
    refine bodyPost_ret (v := .tuple #[.agg (devC d ta tc qa qc da dc la lc), .slice (some ⟨b, 0, none⟩) 1 1, .int .i64 0]) (by simp [results, Try.results17, go_sem, devC, hl0, hl1, hl2, hl3, hl4, hl5, hl6]) rfl ?_
    refine ⟨_, _, rfl, ⟨ta, tc, qa, qc, da, dc, la, lc, rfl, HH.out.kept (HC9.out.no K1.out (by omega)).of_no⟩, acks_one (a := ⟨x.ep, x.seq, 0⟩) HAK.out HM.out (by have := K1.out.size; omega), HC9.out.no K1.out (by omega)⟩
theorem recv_wait1 (d : Dev) (x : Wr) (ta qa da la : Option Addr) (tc qc dc lc : Nat) (M : Nat → Prop) (w : World) (h : DevR w M d ta tc qa qc da dc la lc) (hM : ∀ i, M i → i < w.heap.size) (hql : d.queue.length ≤ 1000) (hdl : d.done.length ≤ 1000)
    (hF : ∀ wx, Kept NoM w wx → Calls Try.prog 41 #[.agg (wrC x)] wx fun e w' => e = .returned (.bool true) ∧ Kept NoM wx w') (hep : x.ep = d.ep) (hh : hasI d.done x.seq = false) (hw : hasSeq d.queue x.seq = true) (he : earlyW d x = true) :
    Calls Try.prog 17 #[.agg (devC d ta tc qa qc da dc la lc), .agg (wrC x)] w (RecvPost M w (d) ([⟨x.ep, x.seq, 0⟩])) := by
  have KB := Lib.hid ((((Kept.refl NoM w).alloc (.cells (devC d ta tc qa qc da dc la lc) 27)).alloc (.cells (wrC x) 41)).alloc (.cells devZC 27))
  have B0 := Lib.hid (blk_old (blk_old (blk_new w (.cells (devC d ta tc qa qc da dc la lc) 27)) (.cells (wrC x) 41)) (.cells devZC 27))
  have B1 := Lib.hid (blk_old (blk_new' (w.alloc (.cells (devC d ta tc qa qc da dc la lc) 27)) (.cells (wrC x) 41) (w.heap.size + 1) (by simp)) (.cells devZC 27))
  have B4 := Lib.hid (blk_new' ((w.alloc (.cells (devC d ta tc qa qc da dc la lc) 27)).alloc (.cells (wrC x) 41)) (.cells devZC 27) (w.heap.size + 2) (by simp))
  have FM := Lib.hid (hF _ KB.out)
  have HH := Lib.hid h
  have HM := Lib.hid hM
  have RC : Hid (∀ e wx, wx.heap[w.heap.size + 1]? = some (.cells (wrC x) 41 (0, 0)) → Calls Try.prog 55 #[.int .i64 e, .pointer (some ⟨w.heap.size + 1, 0, none⟩)] wx fun en w' => ∃ b, en = .returned (.slice (some ⟨b, 0, none⟩) 1 1) ∧ wx.heap.size ≤ b ∧ w'.heap[b]? = some (.cells #[.int .i64 x.ep, .int .i64 x.seq, .int .i64 e] 60 (0, 0)) ∧ Kept NoM wx w') := Lib.hid (fun e wx hx => recvc_ok x e _ wx hx)
  clear h hM hF
  have f1 : ¬ x.ep < d.ep := by omega
  have f2 : ¬ x.ep > d.ep := by omega
  clear hep
  have HS := Lib.hid hh
  have HQ := Lib.hid hw
  have HE := Lib.hid he
  clear hh hw he
  go_enter Try.func17, Try.ntmps17
  go_wp2_with (first
      | (refine wpList_alloc_Z rfl 27 rfl _ (devZ _) ?_)
      | (refine wpList_load_big bigWr rfl _ rfl (w.heap.size + 1) 0 (wrC x) rfl (range_blk (by first | exact B1.out | exact C1.out | exact E1.out)) rfl ?_)
      | (go_at_call 41; refine FM.out.mono ?_; rintro e w1 ⟨rfl, k1⟩; have K1 := Lib.hid (KB.out.trans k1); have C0 := Lib.hid (k1.blk B0.out (fun x => x)); have C1 := Lib.hid (k1.blk B1.out (fun x => x)); have C4 := Lib.hid (k1.blk B4.out (fun x => x)); have hz1 := lt_of_block C4.out; have v0 := cell_blk C1.out 0 _ (wrC_0 x); have v1 := cell_blk C1.out 1 _ (wrC_1 x); have u1 := cell_blk C0.out 1 _ dv1; have u3 := cell_blk C0.out 3 _ dv3; have u4 := cell_blk C0.out 4 _ dv4; clear k1)
      | (go_at_call 47; refine (hasints_ok _ d.done M x.seq _ (HH.out.rd.kept K1.out.of_no (fun _ _ x => x)) (by omega)).mono ?_; rw [HS.out]; rintro e w2 ⟨rfl, rfl⟩)
      | (go_at_call 56; refine (waits_ok _ d.queue M x.seq _ (HH.out.rq.kept K1.out.of_no (fun _ _ x => x)) (by omega)).mono ?_; rw [HQ.out]; rintro e w3 ⟨rfl, k3⟩; have K3 := Lib.hid (K1.out.trans k3); have E0 := Lib.hid (k3.blk C0.out (fun x => x)); have E1 := Lib.hid (k3.blk C1.out (fun x => x)); have E4 := Lib.hid (k3.blk C4.out (fun x => x)); have hz3 := lt_of_block E4.out; have t3 := cell_blk E0.out 3 _ dv3; clear k3)
      | (refine wpList_load_big bigDev rfl _ rfl w.heap.size 0 (devC d ta tc qa qc da dc la lc) rfl (range_blk E0.out) rfl ?_)
      | (go_at_call 53; refine (early_ok (d) x ta qa da la tc qc dc lc _).mono ?_; rw [HE.out]; rintro e w4 ⟨rfl, k4⟩; have K4 := Lib.hid (K3.out.trans k4); have G0 := Lib.hid (k4.blk E0.out (fun x => x)); have G1 := Lib.hid (k4.blk E1.out (fun x => x)); have G4 := Lib.hid (k4.blk E4.out (fun x => x)); have hz4 := lt_of_block G4.out; clear k4))
  refine wp_region_par 4 [] [] [] [] [] (fun wx => CF w4 (w.heap.size + 2) wx)
        [fun v _ => v = .agg (devC d ta tc qa qc da dc la lc), fun v _ => v = .func (.func 55) #[] #[.pointer (some ⟨w.heap.size + 1, 0, none⟩)], fun v wx => ∃ b, (v = .slice (some ⟨b, 0, none⟩) 1 1 ∧ w4.heap.size ≤ b) ∧ wx.heap[b]? = some (.cells #[.int .i64 x.ep, .int .i64 x.seq, .int .i64 0] 60 (0, 0)), fun _ wx => wx.heap[w.heap.size + 2]? = some (.cells (devC d ta tc qa qc da dc la lc) 27 (0, 0))] (by kernel_rfl) (by kernel_rfl) (by kernel_rfl) (CF.refl rfl G4.out).drew (inits_nil) ?_ ?_
  · intro i hi9
    have hst := stab_all (posts := [fun v _ => v = .agg (devC d ta tc qa qc da dc la lc), fun v _ => v = .func (.func 55) #[] #[.pointer (some ⟨w.heap.size + 1, 0, none⟩)], fun v wx => ∃ b, (v = .slice (some ⟨b, 0, none⟩) 1 1 ∧ w4.heap.size ≤ b) ∧ wx.heap[b]? = some (.cells #[.int .i64 x.ep, .int .i64 x.seq, .int .i64 0] 60 (0, 0)), fun _ wx => wx.heap[w.heap.size + 2]? = some (.cells (devC d ta tc qa qc da dc la lc) 27 (0, 0))])        (stab_cons (stab_const _) (stab_cons (stab_const _) (stab_cons (stab_blk (fun b v => v = .slice (some ⟨b, 0, none⟩) 1 1 ∧ w4.heap.size ≤ b) (fun b => b) (fun b => .cells #[.int .i64 x.ep, .int .i64 x.seq, .int .i64 0] 60 (0, 0))) (stab_cons (fun _ _ _ k h => k.blk h (fun x => x)) stab_nil))))
    have hist := init_stab (inits := []) (fun p h => by cases h)
    have HST := Lib.hid hst
    have HIST := Lib.hid hist
    clear hst hist
    rcases (show i = 0 ∨ i = 1 ∨ i = 2 ∨ i = 3 by omega) with rfl | rfl | rfl | rfl
    · refine asks_intro ?_; intro o ho a wx hc hout hp hi R hR; cases ho
      have e2 : a.tmps[2]? = some (.pointer (some ⟨w.heap.size, 0, none⟩)) := hout 2 rfl
      refine gives_load_big bigDev (.tmp 2) rfl w.heap.size 0 (devC d ta tc qa qc da dc la lc) (by go_simp) (range_blk (hc.blk G0.out (by omega))) rfl ?_
      exact hR _ _ hc rfl (fun _ _ _ _ _ u h => h) (fun _ _ h => h)
    · refine asks_intro ?_; intro o ho a wx hc hout hp hi R hR; cases ho
      have e7 : a.tmps[7]? = some (.func (.func 55) #[] #[.pointer (some ⟨w.heap.size + 1, 0, none⟩)]) := hout 7 rfl
      go_simp
      exact hR _ _ hc rfl (fun _ _ _ _ _ u h => h) (fun _ _ h => h)
    · refine asks_intro ?_; intro o ho a wx hc hout hp hi R hR; cases ho
      have e66 : a.tmps[66]?.getD undef = .func (.func 55) #[] #[.pointer (some ⟨w.heap.size + 1, 0, none⟩)] := hp 1 (by omega) rfl
      go_simp
      refine (RC.out 0 wx (hc.blk G1.out (by omega))).mono ?_
      rintro e w2 ⟨b, rfl, q1, q2, q3⟩
      exact ⟨_, rfl, hR _ _ (hc.kept q3) ⟨b, ⟨rfl, Nat.le_trans hc.1.size q1⟩, q2⟩ (fun j _ _ _ _ u h => HST.out j u _ _ q3 h) (fun j _ h => HIST.out j _ _ q3 h)⟩
    · refine asks_intro ?_; intro o ho a wx hc hout hp hi R hR; cases ho
      have e65 : a.tmps[65]?.getD undef = .agg (devC d ta tc qa qc da dc la lc) := hp 0 (by omega) rfl
      have e4 : a.tmps[4]? = some (.pointer (some ⟨w.heap.size + 2, 0, none⟩)) := hout 4 rfl
      obtain ⟨hck, z9, hz7, hz9⟩ := hc
      refine gives_store_bigb (cs := devC d ta tc qa qc da dc la lc) bigDev (.tmp 4) (.tmp 65) rfl (w.heap.size + 2) (by go_simp) (by go_simp) hz9 hz7 rfl (dev1 _ _ _ _ _ _ _ _ _) ?_
      refine hR _ _ (CF.put ⟨hck, z9, hz7, hz9⟩ _ rfl) (putB_blk _ _ _ _ (lt_of_block hz9)) (fun j hj hne hcn hwf u h => ?_) (fun q hq h => ?_)
      · rcases (show j = 0 ∨ j = 1 ∨ j = 2 ∨ j = 3 by omega) with rfl | rfl | rfl | rfl <;> first | exact h | exact absurd hcn (by decide) | exact absurd rfl hne | (obtain ⟨b, ⟨q1, q2⟩, q3⟩ := h; have q2 : w4.heap.size ≤ b := q2; have hz4 := lt_of_block G4.out; exact ⟨b, ⟨q1, q2⟩, (putB_blk_ne _ _ _ _ _ (by omega)).trans q3⟩)
      · trivial
  · intro vs w' hc hp
    have e65 : vs 0 = .agg (devC d ta tc qa qc da dc la lc) := hp 0 (by omega) rfl
    have e66 : vs 1 = .func (.func 55) #[] #[.pointer (some ⟨w.heap.size + 1, 0, none⟩)] := hp 1 (by omega) rfl
    obtain ⟨b, e67, hb67⟩ : ∃ b, (vs 2 = .slice (some ⟨b, 0, none⟩) 1 1 ∧ w4.heap.size ≤ b) ∧ w'.heap[b]? = some (.cells #[.int .i64 x.ep, .int .i64 x.seq, .int .i64 0] 60 (0, 0)) := hp 2 (by omega) rfl
    obtain ⟨_, hbg3⟩ : ∃ _ : Value, w'.heap[w.heap.size + 2]? = some (.cells (devC d ta tc qa qc da dc la lc) 27 (0, 0)) := hp 3 (by omega) rfl
    simp only [List.take_succ_cons, List.take_zero, List.drop_succ_cons, List.drop_zero, putAll, Act.put, List.setIfInBounds_toArray, List.set_cons_zero, List.set_cons_succ, Nat.reduceAdd, e65, e66]
    obtain ⟨e67, hsb⟩ := e67
    rw [e67]
    change wpList _ _ _ _ _ _
    have HB4 := Lib.hid hbg3
    have HAK := Lib.hid hb67
    have HC9 := Lib.hid hc
    clear hbg3 hb67 hc hp
    go_wp2_with fail
    have hl0 : _root_.Go.World.cell? _ ⟨w.heap.size + 1 + 1, 0, none⟩ = _ := cell_blk HB4.out 0 _ dv0
    have hl1 : _root_.Go.World.cell? _ ⟨w.heap.size + 1 + 1, 1, none⟩ = _ := cell_blk HB4.out 1 _ dv1
    have hl2 : _root_.Go.World.cell? _ ⟨w.heap.size + 1 + 1, 2, none⟩ = _ := cell_blk HB4.out 2 _ dv2
    have hl3 : _root_.Go.World.cell? _ ⟨w.heap.size + 1 + 1, 3, none⟩ = _ := cell_blk HB4.out 3 _ dv3
    have hl4 : _root_.Go.World.cell? _ ⟨w.heap.size + 1 + 1, 4, none⟩ = _ := cell_blk HB4.out 4 _ dv4
    have hl5 : _root_.Go.World.cell? _ ⟨w.heap.size + 1 + 1, 5, none⟩ = _ := cell_blk HB4.out 5 _ dv5
    have hl6 : _root_.Go.World.cell? _ ⟨w.heap.size + 1 + 1, 6, none⟩ = _ := cell_blk HB4.out 6 _ dv6
    refine bodyPost_ret (v := .tuple #[.agg (devC d ta tc qa qc da dc la lc), .slice (some ⟨b, 0, none⟩) 1 1, .int .i64 0]) (by simp [results, Try.results17, go_sem, devC, hl0, hl1, hl2, hl3, hl4, hl5, hl6]) rfl ?_
    refine ⟨_, _, rfl, ⟨ta, tc, qa, qc, da, dc, la, lc, rfl, HH.out.kept (HC9.out.no K4.out (by omega)).of_no⟩, acks_one (a := ⟨x.ep, x.seq, 0⟩) HAK.out HM.out (by have := K4.out.size; omega), HC9.out.no K4.out (by omega)⟩
theorem recv_wait2 (d : Dev) (x : Wr) (ta qa da la : Option Addr) (tc qc dc lc : Nat) (M : Nat → Prop) (w : World) (h : DevR w M d ta tc qa qc da dc la lc) (hM : ∀ i, M i → i < w.heap.size) (hql : d.queue.length ≤ 1000) (hdl : d.done.length ≤ 1000)
    (hF : ∀ wx, Kept NoM w wx → Calls Try.prog 41 #[.agg (wrC x)] wx fun e w' => e = .returned (.bool true) ∧ Kept NoM wx w') (hep : x.ep = d.ep) (hh : hasI d.done x.seq = false) (hw : hasSeq d.queue x.seq = true) (he : earlyW d x = false) :
    Calls Try.prog 17 #[.agg (devC d ta tc qa qc da dc la lc), .agg (wrC x)] w (RecvPost M w (d) ([])) := by
  have KB := Lib.hid ((((Kept.refl NoM w).alloc (.cells (devC d ta tc qa qc da dc la lc) 27)).alloc (.cells (wrC x) 41)).alloc (.cells devZC 27))
  have B0 := Lib.hid (blk_old (blk_old (blk_new w (.cells (devC d ta tc qa qc da dc la lc) 27)) (.cells (wrC x) 41)) (.cells devZC 27))
  have B1 := Lib.hid (blk_old (blk_new' (w.alloc (.cells (devC d ta tc qa qc da dc la lc) 27)) (.cells (wrC x) 41) (w.heap.size + 1) (by simp)) (.cells devZC 27))
  have B4 := Lib.hid (blk_new' ((w.alloc (.cells (devC d ta tc qa qc da dc la lc) 27)).alloc (.cells (wrC x) 41)) (.cells devZC 27) (w.heap.size + 2) (by simp))
  have FM := Lib.hid (hF _ KB.out)
  have HH := Lib.hid h
  have HM := Lib.hid hM
  have RC : Hid (∀ e wx, wx.heap[w.heap.size + 1]? = some (.cells (wrC x) 41 (0, 0)) → Calls Try.prog 55 #[.int .i64 e, .pointer (some ⟨w.heap.size + 1, 0, none⟩)] wx fun en w' => ∃ b, en = .returned (.slice (some ⟨b, 0, none⟩) 1 1) ∧ wx.heap.size ≤ b ∧ w'.heap[b]? = some (.cells #[.int .i64 x.ep, .int .i64 x.seq, .int .i64 e] 60 (0, 0)) ∧ Kept NoM wx w') := Lib.hid (fun e wx hx => recvc_ok x e _ wx hx)
  clear h hM hF
  have f1 : ¬ x.ep < d.ep := by omega
  have f2 : ¬ x.ep > d.ep := by omega
  clear hep
  have HS := Lib.hid hh
  have HQ := Lib.hid hw
  have HE := Lib.hid he
  clear hh hw he
  go_enter Try.func17, Try.ntmps17
  go_wp2_with (first
      | (refine wpList_alloc_Z rfl 27 rfl _ (devZ _) ?_)
      | (refine wpList_load_big bigWr rfl _ rfl (w.heap.size + 1) 0 (wrC x) rfl (range_blk (by first | exact B1.out | exact C1.out | exact E1.out)) rfl ?_)
      | (go_at_call 41; refine FM.out.mono ?_; rintro e w1 ⟨rfl, k1⟩; have K1 := Lib.hid (KB.out.trans k1); have C0 := Lib.hid (k1.blk B0.out (fun x => x)); have C1 := Lib.hid (k1.blk B1.out (fun x => x)); have C4 := Lib.hid (k1.blk B4.out (fun x => x)); have hz1 := lt_of_block C4.out; have v0 := cell_blk C1.out 0 _ (wrC_0 x); have v1 := cell_blk C1.out 1 _ (wrC_1 x); have u1 := cell_blk C0.out 1 _ dv1; have u3 := cell_blk C0.out 3 _ dv3; have u4 := cell_blk C0.out 4 _ dv4; clear k1)
      | (go_at_call 47; refine (hasints_ok _ d.done M x.seq _ (HH.out.rd.kept K1.out.of_no (fun _ _ x => x)) (by omega)).mono ?_; rw [HS.out]; rintro e w2 ⟨rfl, rfl⟩)
      | (go_at_call 56; refine (waits_ok _ d.queue M x.seq _ (HH.out.rq.kept K1.out.of_no (fun _ _ x => x)) (by omega)).mono ?_; rw [HQ.out]; rintro e w3 ⟨rfl, k3⟩; have K3 := Lib.hid (K1.out.trans k3); have E0 := Lib.hid (k3.blk C0.out (fun x => x)); have E1 := Lib.hid (k3.blk C1.out (fun x => x)); have E4 := Lib.hid (k3.blk C4.out (fun x => x)); have hz3 := lt_of_block E4.out; have t3 := cell_blk E0.out 3 _ dv3; clear k3)
      | (refine wpList_load_big bigDev rfl _ rfl w.heap.size 0 (devC d ta tc qa qc da dc la lc) rfl (range_blk (by first | exact G0.out | exact E0.out)) rfl ?_)
      | (go_at_call 53; refine (early_ok (d) x ta qa da la tc qc dc lc _).mono ?_; rw [HE.out]; rintro e w4 ⟨rfl, k4⟩; have K4 := Lib.hid (K3.out.trans k4); have G0 := Lib.hid (k4.blk E0.out (fun x => x)); have G1 := Lib.hid (k4.blk E1.out (fun x => x)); have G4 := Lib.hid (k4.blk E4.out (fun x => x)); have hz4 := lt_of_block G4.out; clear k4)
      | (refine wpList_store_bigb (cs := devC d ta tc qa qc da dc la lc) bigDev rfl _ _ rfl (w.heap.size + 2) rfl rfl G4.out rfl rfl (dev1 _ _ _ _ _ _ _ _ _) ?_))
  have GB := Lib.hid (putB_blk w4 (w.heap.size + 2) (devC d ta tc qa qc da dc la lc) 27 (lt_of_block G4.out))
  have KX := Lib.hid (K4.out.putN (b := w.heap.size + 2) (by omega) (devC d ta tc qa qc da dc la lc) 27)
  generalize putB w4 (w.heap.size + 2) (devC d ta tc qa qc da dc la lc) 27 = wx at *
  have hl0 : _root_.Go.World.cell? _ ⟨w.heap.size + 1 + 1, 0, none⟩ = _ := cell_blk GB.out 0 _ dv0
  have hl1 : _root_.Go.World.cell? _ ⟨w.heap.size + 1 + 1, 1, none⟩ = _ := cell_blk GB.out 1 _ dv1
  have hl2 : _root_.Go.World.cell? _ ⟨w.heap.size + 1 + 1, 2, none⟩ = _ := cell_blk GB.out 2 _ dv2
  have hl3 : _root_.Go.World.cell? _ ⟨w.heap.size + 1 + 1, 3, none⟩ = _ := cell_blk GB.out 3 _ dv3
  have hl4 : _root_.Go.World.cell? _ ⟨w.heap.size + 1 + 1, 4, none⟩ = _ := cell_blk GB.out 4 _ dv4
  have hl5 : _root_.Go.World.cell? _ ⟨w.heap.size + 1 + 1, 5, none⟩ = _ := cell_blk GB.out 5 _ dv5
  have hl6 : _root_.Go.World.cell? _ ⟨w.heap.size + 1 + 1, 6, none⟩ = _ := cell_blk GB.out 6 _ dv6
  refine bodyPost_ret (v := .tuple #[.agg (devC d ta tc qa qc da dc la lc), .slice none 0 0, .int .i64 0]) (by simp [results, Try.results17, go_sem, devC, hl0, hl1, hl2, hl3, hl4, hl5, hl6]) rfl ?_
  refine ⟨_, _, rfl, ⟨ta, tc, qa, qc, da, dc, la, lc, rfl, HH.out.kept KX.out.of_no⟩, acks_nil, KX.out⟩
theorem recv_full (d : Dev) (x : Wr) (ta qa da la : Option Addr) (tc qc dc lc : Nat) (M : Nat → Prop) (w : World) (h : DevR w M d ta tc qa qc da dc la lc) (hM : ∀ i, M i → i < w.heap.size) (hql : d.queue.length ≤ 1000) (hdl : d.done.length ≤ 1000)
    (hF : ∀ wx, Kept NoM w wx → Calls Try.prog 41 #[.agg (wrC x)] wx fun e w' => e = .returned (.bool true) ∧ Kept NoM wx w') (hep : x.ep = d.ep) (hh : hasI d.done x.seq = false) (hw : hasSeq d.queue x.seq = false) (hf : d.queue.length = 64) :
    Calls Try.prog 17 #[.agg (devC d ta tc qa qc da dc la lc), .agg (wrC x)] w (RecvPost M w (d) ([⟨x.ep, x.seq, 12⟩])) := by
  have KB := Lib.hid ((((Kept.refl NoM w).alloc (.cells (devC d ta tc qa qc da dc la lc) 27)).alloc (.cells (wrC x) 41)).alloc (.cells devZC 27))
  have B0 := Lib.hid (blk_old (blk_old (blk_new w (.cells (devC d ta tc qa qc da dc la lc) 27)) (.cells (wrC x) 41)) (.cells devZC 27))
  have B1 := Lib.hid (blk_old (blk_new' (w.alloc (.cells (devC d ta tc qa qc da dc la lc) 27)) (.cells (wrC x) 41) (w.heap.size + 1) (by simp)) (.cells devZC 27))
  have B4 := Lib.hid (blk_new' ((w.alloc (.cells (devC d ta tc qa qc da dc la lc) 27)).alloc (.cells (wrC x) 41)) (.cells devZC 27) (w.heap.size + 2) (by simp))
  have FM := Lib.hid (hF _ KB.out)
  have HH := Lib.hid h
  have HM := Lib.hid hM
  have RC : Hid (∀ e wx, wx.heap[w.heap.size + 1]? = some (.cells (wrC x) 41 (0, 0)) → Calls Try.prog 55 #[.int .i64 e, .pointer (some ⟨w.heap.size + 1, 0, none⟩)] wx fun en w' => ∃ b, en = .returned (.slice (some ⟨b, 0, none⟩) 1 1) ∧ wx.heap.size ≤ b ∧ w'.heap[b]? = some (.cells #[.int .i64 x.ep, .int .i64 x.seq, .int .i64 e] 60 (0, 0)) ∧ Kept NoM wx w') := Lib.hid (fun e wx hx => recvc_ok x e _ wx hx)
  clear h hM hF
  have f1 : ¬ x.ep < d.ep := by omega
  have f2 : ¬ x.ep > d.ep := by omega
  clear hep
  have HS := Lib.hid hh
  have HQ := Lib.hid hw
  have f3 : ((d.queue.length : Int) == 64) = true := by simp; omega
  have HFQ := Lib.hid hf
  clear hh hw hf
  go_enter Try.func17, Try.ntmps17
  go_wp2_with (first
      | (refine wpList_alloc_Z rfl 27 rfl _ (devZ _) ?_)
      | (refine wpList_load_big bigWr rfl _ rfl (w.heap.size + 1) 0 (wrC x) rfl (range_blk (by first | exact B1.out | exact C1.out | exact E1.out)) rfl ?_)
      | (go_at_call 41; refine FM.out.mono ?_; rintro e w1 ⟨rfl, k1⟩; have K1 := Lib.hid (KB.out.trans k1); have C0 := Lib.hid (k1.blk B0.out (fun x => x)); have C1 := Lib.hid (k1.blk B1.out (fun x => x)); have C4 := Lib.hid (k1.blk B4.out (fun x => x)); have hz1 := lt_of_block C4.out; have v0 := cell_blk C1.out 0 _ (wrC_0 x); have v1 := cell_blk C1.out 1 _ (wrC_1 x); have u1 := cell_blk C0.out 1 _ dv1; have u3 := cell_blk C0.out 3 _ dv3; have u4 := cell_blk C0.out 4 _ dv4; clear k1)
      | (go_at_call 47; refine (hasints_ok _ d.done M x.seq _ (HH.out.rd.kept K1.out.of_no (fun _ _ x => x)) (by omega)).mono ?_; rw [HS.out]; rintro e w2 ⟨rfl, rfl⟩)
      | (go_at_call 56; refine (waits_ok _ d.queue M x.seq _ (HH.out.rq.kept K1.out.of_no (fun _ _ x => x)) (by omega)).mono ?_; rw [HQ.out]; rintro e w3 ⟨rfl, k3⟩; have K3 := Lib.hid (K1.out.trans k3); have E0 := Lib.hid (k3.blk C0.out (fun x => x)); have E1 := Lib.hid (k3.blk C1.out (fun x => x)); have E4 := Lib.hid (k3.blk C4.out (fun x => x)); have hz3 := lt_of_block E4.out; have t3 := cell_blk E0.out 3 _ dv3; clear k3))
  refine wp_region_par 4 [] [] [] [] [] (fun wx => CF w3 (w.heap.size + 2) wx)
        [fun v _ => v = .agg (devC d ta tc qa qc da dc la lc), fun v _ => v = .func (.func 55) #[] #[.pointer (some ⟨w.heap.size + 1, 0, none⟩)], fun v wx => ∃ b, (v = .slice (some ⟨b, 0, none⟩) 1 1 ∧ w3.heap.size ≤ b) ∧ wx.heap[b]? = some (.cells #[.int .i64 x.ep, .int .i64 x.seq, .int .i64 12] 60 (0, 0)), fun _ wx => wx.heap[w.heap.size + 2]? = some (.cells (devC d ta tc qa qc da dc la lc) 27 (0, 0))] (by kernel_rfl) (by kernel_rfl) (by kernel_rfl) (CF.refl rfl E4.out).drew (inits_nil) ?_ ?_
  · intro i hi9
    have hst := stab_all (posts := [fun v _ => v = .agg (devC d ta tc qa qc da dc la lc), fun v _ => v = .func (.func 55) #[] #[.pointer (some ⟨w.heap.size + 1, 0, none⟩)], fun v wx => ∃ b, (v = .slice (some ⟨b, 0, none⟩) 1 1 ∧ w3.heap.size ≤ b) ∧ wx.heap[b]? = some (.cells #[.int .i64 x.ep, .int .i64 x.seq, .int .i64 12] 60 (0, 0)), fun _ wx => wx.heap[w.heap.size + 2]? = some (.cells (devC d ta tc qa qc da dc la lc) 27 (0, 0))])        (stab_cons (stab_const _) (stab_cons (stab_const _) (stab_cons (stab_blk (fun b v => v = .slice (some ⟨b, 0, none⟩) 1 1 ∧ w3.heap.size ≤ b) (fun b => b) (fun b => .cells #[.int .i64 x.ep, .int .i64 x.seq, .int .i64 12] 60 (0, 0))) (stab_cons (fun _ _ _ k h => k.blk h (fun x => x)) stab_nil))))
    have hist := init_stab (inits := []) (fun p h => by cases h)
    have HST := Lib.hid hst
    have HIST := Lib.hid hist
    clear hst hist
    rcases (show i = 0 ∨ i = 1 ∨ i = 2 ∨ i = 3 by omega) with rfl | rfl | rfl | rfl
    · refine asks_intro ?_; intro o ho a wx hc hout hp hi R hR; cases ho
      have e2 : a.tmps[2]? = some (.pointer (some ⟨w.heap.size, 0, none⟩)) := hout 2 rfl
      refine gives_load_big bigDev (.tmp 2) rfl w.heap.size 0 (devC d ta tc qa qc da dc la lc) (by go_simp) (range_blk (hc.blk E0.out (by omega))) rfl ?_
      exact hR _ _ hc rfl (fun _ _ _ _ _ u h => h) (fun _ _ h => h)
    · refine asks_intro ?_; intro o ho a wx hc hout hp hi R hR; cases ho
      have e7 : a.tmps[7]? = some (.func (.func 55) #[] #[.pointer (some ⟨w.heap.size + 1, 0, none⟩)]) := hout 7 rfl
      go_simp
      exact hR _ _ hc rfl (fun _ _ _ _ _ u h => h) (fun _ _ h => h)
    · refine asks_intro ?_; intro o ho a wx hc hout hp hi R hR; cases ho
      have e60 : a.tmps[60]?.getD undef = .func (.func 55) #[] #[.pointer (some ⟨w.heap.size + 1, 0, none⟩)] := hp 1 (by omega) rfl
      go_simp
      refine (RC.out 12 wx (hc.blk E1.out (by omega))).mono ?_
      rintro e w2 ⟨b, rfl, q1, q2, q3⟩
      exact ⟨_, rfl, hR _ _ (hc.kept q3) ⟨b, ⟨rfl, Nat.le_trans hc.1.size q1⟩, q2⟩ (fun j _ _ _ _ u h => HST.out j u _ _ q3 h) (fun j _ h => HIST.out j _ _ q3 h)⟩
    · refine asks_intro ?_; intro o ho a wx hc hout hp hi R hR; cases ho
      have e59 : a.tmps[59]?.getD undef = .agg (devC d ta tc qa qc da dc la lc) := hp 0 (by omega) rfl
      have e4 : a.tmps[4]? = some (.pointer (some ⟨w.heap.size + 2, 0, none⟩)) := hout 4 rfl
      obtain ⟨hck, z9, hz7, hz9⟩ := hc
      refine gives_store_bigb (cs := devC d ta tc qa qc da dc la lc) bigDev (.tmp 4) (.tmp 59) rfl (w.heap.size + 2) (by go_simp) (by go_simp) hz9 hz7 rfl (dev1 _ _ _ _ _ _ _ _ _) ?_
      refine hR _ _ (CF.put ⟨hck, z9, hz7, hz9⟩ _ rfl) (putB_blk _ _ _ _ (lt_of_block hz9)) (fun j hj hne hcn hwf u h => ?_) (fun q hq h => ?_)
      · rcases (show j = 0 ∨ j = 1 ∨ j = 2 ∨ j = 3 by omega) with rfl | rfl | rfl | rfl <;> first | exact h | exact absurd hcn (by decide) | exact absurd rfl hne | (obtain ⟨b, ⟨q1, q2⟩, q3⟩ := h; have q2 : w3.heap.size ≤ b := q2; have hz4 := lt_of_block E4.out; exact ⟨b, ⟨q1, q2⟩, (putB_blk_ne _ _ _ _ _ (by omega)).trans q3⟩)
      · trivial
  · intro vs w' hc hp
    have e59 : vs 0 = .agg (devC d ta tc qa qc da dc la lc) := hp 0 (by omega) rfl
    have e60 : vs 1 = .func (.func 55) #[] #[.pointer (some ⟨w.heap.size + 1, 0, none⟩)] := hp 1 (by omega) rfl
    obtain ⟨b, e61, hb61⟩ : ∃ b, (vs 2 = .slice (some ⟨b, 0, none⟩) 1 1 ∧ w3.heap.size ≤ b) ∧ w'.heap[b]? = some (.cells #[.int .i64 x.ep, .int .i64 x.seq, .int .i64 12] 60 (0, 0)) := hp 2 (by omega) rfl
    obtain ⟨_, hbg3⟩ : ∃ _ : Value, w'.heap[w.heap.size + 2]? = some (.cells (devC d ta tc qa qc da dc la lc) 27 (0, 0)) := hp 3 (by omega) rfl
    simp only [List.take_succ_cons, List.take_zero, List.drop_succ_cons, List.drop_zero, putAll, Act.put, List.setIfInBounds_toArray, List.set_cons_zero, List.set_cons_succ, Nat.reduceAdd, e59, e60]
    obtain ⟨e61, hsb⟩ := e61
    rw [e61]
    change wpList _ _ _ _ _ _
    have HB4 := Lib.hid hbg3
    have HAK := Lib.hid hb61
    have HC9 := Lib.hid hc
    clear hbg3 hb61 hc hp
    go_wp2_with fail
    have hl0 : _root_.Go.World.cell? _ ⟨w.heap.size + 1 + 1, 0, none⟩ = _ := cell_blk HB4.out 0 _ dv0
    have hl1 : _root_.Go.World.cell? _ ⟨w.heap.size + 1 + 1, 1, none⟩ = _ := cell_blk HB4.out 1 _ dv1
    have hl2 : _root_.Go.World.cell? _ ⟨w.heap.size + 1 + 1, 2, none⟩ = _ := cell_blk HB4.out 2 _ dv2
    have hl3 : _root_.Go.World.cell? _ ⟨w.heap.size + 1 + 1, 3, none⟩ = _ := cell_blk HB4.out 3 _ dv3
    have hl4 : _root_.Go.World.cell? _ ⟨w.heap.size + 1 + 1, 4, none⟩ = _ := cell_blk HB4.out 4 _ dv4
    have hl5 : _root_.Go.World.cell? _ ⟨w.heap.size + 1 + 1, 5, none⟩ = _ := cell_blk HB4.out 5 _ dv5
    have hl6 : _root_.Go.World.cell? _ ⟨w.heap.size + 1 + 1, 6, none⟩ = _ := cell_blk HB4.out 6 _ dv6
    refine bodyPost_ret (v := .tuple #[.agg (devC d ta tc qa qc da dc la lc), .slice (some ⟨b, 0, none⟩) 1 1, .int .i64 0]) (by simp [results, Try.results17, go_sem, devC, hl0, hl1, hl2, hl3, hl4, hl5, hl6]) rfl ?_
    refine ⟨_, _, rfl, ⟨ta, tc, qa, qc, da, dc, la, lc, rfl, HH.out.kept (HC9.out.no K3.out (by omega)).of_no⟩, acks_one (a := ⟨x.ep, x.seq, 12⟩) HAK.out HM.out (by have := K3.out.size; omega), HC9.out.no K3.out (by omega)⟩
end Go.Proofs.Ytghgegghlefclaa
