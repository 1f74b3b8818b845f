/- Texts that belong together: W47, W48. -/
import Derived.Test.YtghgegghlefclaaKV15
import Derived.Test.YtghgegghlefclaaKW9
import Derived.Test.YtghgegghlefclaaKW34
set_option linter.unusedVariables false
set_option linter.unusedSimpArgs false
set_option linter.unusedSectionVars false
/- Walks: Receive of the specification. -/
namespace Go.Proofs.Ytghgegghlefclaa
open Go.RowKit
set_option maxHeartbeats 4000000
set_option maxRecDepth 8000
theorem rrecv_bad (d : Dev) (x : Wr) (ta qa da la : Option Addr) (tc qc dc lc : Nat) (M : Nat → Prop) (w : World) (h : DevR w M d ta tc qa qc da dc la lc) (hM : ∀ i, M i → i < w.heap.size) (hql : d.queue.length ≤ 1000) (hdl : d.done.length ≤ 1000) (hf : formedB x = false)  :
    Calls Try.prog 18 #[.agg (devC d ta tc qa qc da dc la lc), .agg (wrC x)] w (BadPost w) := by
  have KB := Lib.hid ((((Kept.refl NoM w).alloc (.cells (devC d ta tc qa qc da dc la lc) 27)).alloc (.cells (wrC x) 41)).alloc (.cells devZC 27))
  have B0 := Lib.hid (blk_old (blk_old (blk_new w (.cells (devC d ta tc qa qc da dc la lc) 27)) (.cells (wrC x) 41)) (.cells devZC 27))
  have B1 := Lib.hid (blk_old (blk_new' (w.alloc (.cells (devC d ta tc qa qc da dc la lc) 27)) (.cells (wrC x) 41) (w.heap.size + 1) (by simp)) (.cells devZC 27))
  have B4 := Lib.hid (blk_new' ((w.alloc (.cells (devC d ta tc qa qc da dc la lc) 27)).alloc (.cells (wrC x) 41)) (.cells devZC 27) (w.heap.size + 2) (by simp))
  have HH := Lib.hid h
  have HM := Lib.hid hM
  have HF := Lib.hid hf
  have FM := Lib.hid (rformed_ok x (((w.alloc (.cells (devC d ta tc qa qc da dc la lc) 27)).alloc (.cells (wrC x) 41)).alloc (.cells devZC 27)))
  clear h hM hf
  go_enter Try.func18, Try.ntmps18
  go_wp2_with (first
      | (refine wpList_alloc_Z rfl 27 rfl _ (devZ _) ?_)
      | (refine wpList_load_big bigWr rfl _ rfl (w.heap.size + 1) 0 (wrC x) rfl (range_blk B1.out) rfl ?_))
  refine FM.out.mono ?_
  rintro e w1 ⟨e1, k1⟩
  rw [HF.out] at e1
  subst e1
  have K1 := Lib.hid (KB.out.trans k1)
  have C0 := Lib.hid (k1.blk B0.out (fun x => x))
  have C1 := Lib.hid (k1.blk B1.out (fun x => x))
  have C4 := Lib.hid (k1.blk B4.out (fun x => x))
  have hz1 := lt_of_block C4.out
  clear k1 KB FM B0 B1 B4
  go_wp2_with (refine wpList_store_bigb (cs := devZC) bigDev rfl _ _ rfl (w.heap.size + 2) rfl rfl C4.out rfl rfl (dev1 _ _ _ _ _ _ _ _ _) ?_)
  have GB := Lib.hid (putB_blk w1 (w.heap.size + 2) devZC 27 (lt_of_block C4.out))
  have FD := Lib.hid (K1.out.putN (b := w.heap.size + 2) (by omega) devZC 27)
  generalize putB w1 (w.heap.size + 2) devZC 27 = wx at *
  have hl0 : _root_.Go.World.cell? _ ⟨w.heap.size + 2, 0, none⟩ = _ := cell_blk GB.out 0 _ dv0
  have hl1 : _root_.Go.World.cell? _ ⟨w.heap.size + 2, 1, none⟩ = _ := cell_blk GB.out 1 _ dv1
  have hl2 : _root_.Go.World.cell? _ ⟨w.heap.size + 2, 2, none⟩ = _ := cell_blk GB.out 2 _ dv2
  have hl3 : _root_.Go.World.cell? _ ⟨w.heap.size + 2, 3, none⟩ = _ := cell_blk GB.out 3 _ dv3
  have hl4 : _root_.Go.World.cell? _ ⟨w.heap.size + 2, 4, none⟩ = _ := cell_blk GB.out 4 _ dv4
  have hl5 : _root_.Go.World.cell? _ ⟨w.heap.size + 2, 5, none⟩ = _ := cell_blk GB.out 5 _ dv5
  have hl6 : _root_.Go.World.cell? _ ⟨w.heap.size + 2, 6, none⟩ = _ := cell_blk GB.out 6 _ dv6
  refine bodyPost_ret (v := .tuple #[.agg devZC, .slice none 0 0, .int .i64 1]) (by simp [results, Try.results18, go_sem, devC, devZC, dev0, hl0, hl1, hl2, hl3, hl4, hl5, hl6]) rfl ?_
  exact ⟨rfl, FD.out⟩
theorem rrecv_less (d : Dev) (x : Wr) (ta qa da la : Option Addr) (tc qc dc lc : Nat) (M : Nat → Prop) (w : World) (h : DevR w M d ta tc qa qc da dc la lc) (hM : ∀ i, M i → i < w.heap.size) (hql : d.queue.length ≤ 1000) (hdl : d.done.length ≤ 1000) (hf : formedB x = true) (hep : x.ep < d.ep) :
    Calls Try.prog 18 #[.agg (devC d ta tc qa qc da dc la lc), .agg (wrC x)] w (RecvPost M w (d) ([⟨x.ep, x.seq, 22⟩])) := by
  have KB := Lib.hid ((((Kept.refl NoM w).alloc (.cells (devC d ta tc qa qc da dc la lc) 27)).alloc (.cells (wrC x) 41)).alloc (.cells devZC 27))
  have B0 := Lib.hid (blk_old (blk_old (blk_new w (.cells (devC d ta tc qa qc da dc la lc) 27)) (.cells (wrC x) 41)) (.cells devZC 27))
  have B1 := Lib.hid (blk_old (blk_new' (w.alloc (.cells (devC d ta tc qa qc da dc la lc) 27)) (.cells (wrC x) 41) (w.heap.size + 1) (by simp)) (.cells devZC 27))
  have B4 := Lib.hid (blk_new' ((w.alloc (.cells (devC d ta tc qa qc da dc la lc) 27)).alloc (.cells (wrC x) 41)) (.cells devZC 27) (w.heap.size + 2) (by simp))
  have HH := Lib.hid h
  have HM := Lib.hid hM
  have HF := Lib.hid hf
  have FM := Lib.hid (rformed_ok x (((w.alloc (.cells (devC d ta tc qa qc da dc la lc) 27)).alloc (.cells (wrC x) 41)).alloc (.cells devZC 27)))
  clear h hM hf
  go_enter Try.func18, Try.ntmps18
  go_wp2_with (first
      | (refine wpList_alloc_Z rfl 27 rfl _ (devZ _) ?_)
      | (refine wpList_load_big bigWr rfl _ rfl (w.heap.size + 1) 0 (wrC x) rfl (range_blk B1.out) rfl ?_))
  refine FM.out.mono ?_
  rintro e w1 ⟨e1, k1⟩
  rw [HF.out] at e1
  subst e1
  have K1 := Lib.hid (KB.out.trans k1)
  have C0 := Lib.hid (k1.blk B0.out (fun x => x))
  have C1 := Lib.hid (k1.blk B1.out (fun x => x))
  have C4 := Lib.hid (k1.blk B4.out (fun x => x))
  have hz1 := lt_of_block C4.out
  clear k1 KB FM B0 B1 B4
  have S0 := Lib.hid (BxSt.start (M := M) (A := w1.heap.size) C0.out C4.out C1.out ((HH.out.mono (fun i hi q => by rcases q with q | q | q | q | q; exact q; all_goals omega)).kept K1.out.of_no) K1.out ⟨by omega, by omega, by omega, by omega⟩ ⟨by omega, by omega, by omega, by omega, by omega, by omega⟩ rfl)
  have v0 := cell_blk C1.out 0 _ (wrC_0 x)
  have v1 := cell_blk C1.out 1 _ (wrC_1 x)
  clear C0 C1 C4 HH K1
  go_wp2_with (first
      | (refine wpList_alloc_Z rfl 60 rfl _ (akZ _) ?_)
      | (refine wpList_store_bign (cs := akC x 0) bigAk rfl _ _ rfl w1.heap.size (by simp) rfl rfl rfl rfl (ak1 x 0) ?_; unfold akC; generalize (w1.alloc (.cells #[.int .i64 x.ep, .int .i64 x.seq, .int .i64 0] 60)) = w2 at *; have u0 := cell_blk S0.out.hx 0 _ (wrC_0 x); have u1 := cell_blk S0.out.hx 1 _ (wrC_1 x); have y1 := cell_blk S0.out.hd 1 _ dv1; have y4 := cell_blk S0.out.hd 4 _ dv4; have e2 := cell_blk S0.out.ha 2 _ rfl; have f2 := free_blk S0.out.ha 2; have S1 := Lib.hid (S0.out.setE 22)))
  generalize w2.setCell ⟨w1.heap.size, 2, none⟩ (.int .i64 22) = w3 at *
  clear u0 u1 y1 y4 e2 f2 v0 v1 S0
  refine wp_region_par 4 [] [] [] [] [] (fun wx => CF w3 (w.heap.size + 2) wx)
        [fun v _ => v = .agg (devC d ta tc qa qc da dc la lc), fun v _ => v = .agg (akC x 22), fun v wx => ∃ b, (v = .slice (some ⟨b, 0, none⟩) 1 1 ∧ w3.heap.size ≤ b) ∧ wx.heap[b]? = some (.cells (akC x 22) 60 (0, 0)), fun _ wx => wx.heap[w.heap.size + 2]? = some (.cells (devC d ta tc qa qc da dc la lc) 27 (0, 0))] (by kernel_rfl) (by kernel_rfl) (by kernel_rfl) (CF.refl rfl S1.out.hz).drew (inits_nil) ?_ ?_
  · intro i hi9
    have hst := stab_all (posts := [fun v _ => v = .agg (devC d ta tc qa qc da dc la lc), fun v _ => v = .agg (akC x 22), fun v wx => ∃ b, (v = .slice (some ⟨b, 0, none⟩) 1 1 ∧ w3.heap.size ≤ b) ∧ wx.heap[b]? = some (.cells (akC x 22) 60 (0, 0)), fun _ wx => wx.heap[w.heap.size + 2]? = some (.cells (devC d ta tc qa qc da dc la lc) 27 (0, 0))])        (stab_cons (stab_const _) (stab_cons (stab_const _) (stab_cons (stab_blk (fun b v => v = .slice (some ⟨b, 0, none⟩) 1 1 ∧ w3.heap.size ≤ b) (fun b => b) (fun b => .cells (akC x 22) 60 (0, 0))) (stab_cons (fun _ _ _ k h => k.blk h (fun x => x)) stab_nil))))
    have hist := init_stab (inits := []) (fun p h => by cases h)
    have HST := Lib.hid hst
    have HIST := Lib.hid hist
    clear hst hist
    rcases (show i = 0 ∨ i = 1 ∨ i = 2 ∨ i = 3 by omega) with rfl | rfl | rfl | rfl
    · refine asks_intro ?_; intro o ho a wx hc hout hp hi R hR; cases ho
      have e2 : a.tmps[2]? = some (.pointer (some ⟨w.heap.size, 0, none⟩)) := hout 2 rfl
      refine gives_load_big bigDev (.tmp 2) rfl w.heap.size 0 (devC d ta tc qa qc da dc la lc) (by go_simp) (range_blk (hc.blk S1.out.hd (by omega))) rfl ?_
      exact hR _ _ hc rfl (fun _ _ _ _ _ u h => h) (fun _ _ h => h)
    · refine asks_intro ?_; intro o ho a wx hc hout hp hi R hR; cases ho
      have e7 : a.tmps[7]? = some (.pointer (some ⟨w1.heap.size, 0, none⟩)) := hout 7 rfl
      refine gives_load_big bigAk (.tmp 7) rfl w1.heap.size 0 (akC x 22) (by go_simp) (range_blk (hc.blk S1.out.ha (by omega))) rfl ?_
      exact hR _ _ hc rfl (fun _ _ _ _ _ u h => h) (fun _ _ h => h)
    · refine asks_intro ?_; intro o ho a wx hc hout hp hi R hR; cases ho
      have e26 : a.tmps[26]?.getD undef = .agg (akC x 22) := hp 1 (by omega) rfl
      go_simp
      exact hR _ _ (hc.alloc _) ⟨_, ⟨rfl, hc.1.size⟩, blk_new _ _⟩ (fun j _ _ _ _ u h => HST.out j u _ _ ((Kept.refl _ _).alloc _) h) (fun j _ h => HIST.out j _ _ ((Kept.refl _ _).alloc _) h)
    · refine asks_intro ?_; intro o ho a wx hc hout hp hi R hR; cases ho
      have e25 : a.tmps[25]?.getD undef = .agg (devC d ta tc qa qc da dc la lc) := hp 0 (by omega) rfl
      have e4 : a.tmps[4]? = some (.pointer (some ⟨w.heap.size + 2, 0, none⟩)) := hout 4 rfl
      obtain ⟨hck, z9, hz7, hz9⟩ := hc
      refine gives_store_bigb (cs := devC d ta tc qa qc da dc la lc) bigDev (.tmp 4) (.tmp 25) rfl (w.heap.size + 2) (by go_simp) (by go_simp) hz9 hz7 rfl (dev1 _ _ _ _ _ _ _ _ _) ?_
      refine hR _ _ (CF.put ⟨hck, z9, hz7, hz9⟩ _ rfl) (putB_blk _ _ _ _ (lt_of_block hz9)) (fun j hj hne hcn hwf u h => ?_) (fun q hq h => ?_)
      · rcases (show j = 0 ∨ j = 1 ∨ j = 2 ∨ j = 3 by omega) with rfl | rfl | rfl | rfl <;> first | exact h | exact absurd hcn (by decide) | exact absurd rfl hne | (obtain ⟨b, ⟨q1, q2⟩, q3⟩ := h; have q2 : w3.heap.size ≤ b := q2; have hz9 := S1.out.bxlt HM.out _ (.inr (.inr (.inl rfl))); exact ⟨b, ⟨q1, q2⟩, (putB_blk_ne _ _ _ _ _ (by omega)).trans q3⟩)
      · trivial
  · intro vs w' hc hp
    have e25 : vs 0 = .agg (devC d ta tc qa qc da dc la lc) := hp 0 (by omega) rfl
    have e26 : vs 1 = .agg (akC x 22) := hp 1 (by omega) rfl
    obtain ⟨b, e27, hb27⟩ : ∃ b, (vs 2 = .slice (some ⟨b, 0, none⟩) 1 1 ∧ w3.heap.size ≤ b) ∧ w'.heap[b]? = some (.cells (akC x 22) 60 (0, 0)) := hp 2 (by omega) rfl
    obtain ⟨_, hbg3⟩ : ∃ _ : Value, w'.heap[w.heap.size + 2]? = some (.cells (devC d ta tc qa qc da dc la lc) 27 (0, 0)) := hp 3 (by omega) rfl
    simp only [List.take_succ_cons, List.take_zero, List.drop_succ_cons, List.drop_zero, putAll, Act.put, List.setIfInBounds_toArray, List.set_cons_zero, List.set_cons_succ, Nat.reduceAdd, e25, e26]
    obtain ⟨e27, hsb⟩ := e27
    rw [e27]
    change wpList _ _ _ _ _ _
    have HB4 := Lib.hid hbg3
    have HAK := Lib.hid hb27
    have HC9 := Lib.hid hc
    clear hbg3 hb27 hc hp
    go_wp2_with fail
    have hl0 : _root_.Go.World.cell? _ ⟨w.heap.size + 2, 0, none⟩ = _ := cell_blk HB4.out 0 _ dv0
    have hl1 : _root_.Go.World.cell? _ ⟨w.heap.size + 2, 1, none⟩ = _ := cell_blk HB4.out 1 _ dv1
    have hl2 : _root_.Go.World.cell? _ ⟨w.heap.size + 2, 2, none⟩ = _ := cell_blk HB4.out 2 _ dv2
    have hl3 : _root_.Go.World.cell? _ ⟨w.heap.size + 2, 3, none⟩ = _ := cell_blk HB4.out 3 _ dv3
    have hl4 : _root_.Go.World.cell? _ ⟨w.heap.size + 2, 4, none⟩ = _ := cell_blk HB4.out 4 _ dv4
    have hl5 : _root_.Go.World.cell? _ ⟨w.heap.size + 2, 5, none⟩ = _ := cell_blk HB4.out 5 _ dv5
    have hl6 : _root_.Go.World.cell? _ ⟨w.heap.size + 2, 6, none⟩ = _ := cell_blk HB4.out 6 _ dv6
    refine bodyPost_ret (v := .tuple #[.agg (devC d ta tc qa qc da dc la lc), .slice (some ⟨b, 0, none⟩) 1 1, .int .i64 0]) (by simp [results, Try.results18, go_sem, devC, hl0, hl1, hl2, hl3, hl4, hl5, hl6]) rfl ?_
    have FD := S1.out.dev HC9.out.1
    exact ⟨_, _, rfl, FD.1, acks_one (a := ⟨x.ep, x.seq, 22⟩) HAK.out HM.out (by have := S1.out.kp.size; omega), FD.2⟩
end Go.Proofs.Ytghgegghlefclaa

/- Walks: Receive of the specification. -/
namespace Go.Proofs.Ytghgegghlefclaa
open Go.RowKit
set_option maxHeartbeats 4000000
set_option maxRecDepth 8000
theorem hasSeq_take {l : List Wr} {k : Nat} {y : Wr} {n : Int} (h : l[k]? = some y) : hasSeq (l.take (k + 1)) n = (hasSeq (l.take k) n || decide (y.seq = n)) := any_snoc h
theorem empty_ne {w : World} {b b' : Nat} {x : Wr} {t t' : TypeId} (h : w.heap[b]? = some (.cells #[] t (0, 0))) (h' : w.heap[b']? = some (.cells (wrC x) t' (0, 0))) : b' ≠ b := by
  rintro rfl
  have h9 := h.symm.trans h'
  simp only [Option.some.injEq, Obj.cells.injEq] at h9
  have := congrArg Array.size h9.1
  simp [wrC, wrL] at this
theorem rrecv_done (d : Dev) (x : Wr) (ta qa da la : Option Addr) (tc qc dc lc : Nat) (M : Nat → Prop) (w : World) (h : DevR w M d ta tc qa qc da dc la lc) (hM : ∀ i, M i → i < w.heap.size) (hql : d.queue.length ≤ 1000) (hdl : d.done.length ≤ 1000) (hf : formedB x = true) (hep : x.ep = d.ep) (hh : hasI d.done x.seq = true) :
    Calls Try.prog 18 #[.agg (devC d ta tc qa qc da dc la lc), .agg (wrC x)] w (RecvPost M w (d) ([⟨x.ep, x.seq, 0⟩])) := by
  have KB := Lib.hid ((((Kept.refl NoM w).alloc (.cells (devC d ta tc qa qc da dc la lc) 27)).alloc (.cells (wrC x) 41)).alloc (.cells devZC 27))
  have B0 := Lib.hid (blk_old (blk_old (blk_new w (.cells (devC d ta tc qa qc da dc la lc) 27)) (.cells (wrC x) 41)) (.cells devZC 27))
  have B1 := Lib.hid (blk_old (blk_new' (w.alloc (.cells (devC d ta tc qa qc da dc la lc) 27)) (.cells (wrC x) 41) (w.heap.size + 1) (by simp)) (.cells devZC 27))
  have B4 := Lib.hid (blk_new' ((w.alloc (.cells (devC d ta tc qa qc da dc la lc) 27)).alloc (.cells (wrC x) 41)) (.cells devZC 27) (w.heap.size + 2) (by simp))
  have HH := Lib.hid h
  have HM := Lib.hid hM
  have HF := Lib.hid hf
  have FM := Lib.hid (rformed_ok x (((w.alloc (.cells (devC d ta tc qa qc da dc la lc) 27)).alloc (.cells (wrC x) 41)).alloc (.cells devZC 27)))
  clear h hM hf
  have f1 : ¬ x.ep < d.ep := by omega
  have f2 : ¬ x.ep > d.ep := by omega
  clear hep
  have HS := Lib.hid hh
  clear hh
  go_enter Try.func18, Try.ntmps18
  go_wp2_with (first
      | (refine wpList_alloc_Z rfl 27 rfl _ (devZ _) ?_)
      | (refine wpList_load_big bigWr rfl _ rfl (w.heap.size + 1) 0 (wrC x) rfl (range_blk B1.out) rfl ?_))
  refine FM.out.mono ?_
  rintro e w1 ⟨e1, k1⟩
  rw [HF.out] at e1
  subst e1
  have K1 := Lib.hid (KB.out.trans k1)
  have C0 := Lib.hid (k1.blk B0.out (fun x => x))
  have C1 := Lib.hid (k1.blk B1.out (fun x => x))
  have C4 := Lib.hid (k1.blk B4.out (fun x => x))
  have hz1 := lt_of_block C4.out
  clear k1 KB FM B0 B1 B4
  have S0 := Lib.hid (BxSt.start (M := M) (A := w1.heap.size) C0.out C4.out C1.out ((HH.out.mono (fun i hi q => by rcases q with q | q | q | q | q; exact q; all_goals omega)).kept K1.out.of_no) K1.out ⟨by omega, by omega, by omega, by omega⟩ ⟨by omega, by omega, by omega, by omega, by omega, by omega⟩ rfl)
  have v0 := cell_blk C1.out 0 _ (wrC_0 x)
  have v1 := cell_blk C1.out 1 _ (wrC_1 x)
  clear C0 C1 C4 HH K1
  go_wp2_with (first
      | (refine wpList_alloc_Z rfl 60 rfl _ (akZ _) ?_)
      | (refine wpList_store_bign (cs := akC x 0) bigAk rfl _ _ rfl w1.heap.size (by simp) rfl rfl rfl rfl (ak1 x 0) ?_; unfold akC; generalize (w1.alloc (.cells #[.int .i64 x.ep, .int .i64 x.seq, .int .i64 0] 60)) = w2 at *; have u0 := cell_blk S0.out.hx 0 _ (wrC_0 x); have u1 := cell_blk S0.out.hx 1 _ (wrC_1 x); have y1 := cell_blk S0.out.hd 1 _ dv1; have y4 := cell_blk S0.out.hd 4 _ dv4)
      | (go_at_call 58; refine (rhas_ok _ d.done (BX M w.heap.size (w.heap.size + 2) (w.heap.size + 1) w1.heap.size) x.seq _ S0.out.rd.rd (by omega)).mono ?_; rw [HS.out]; rintro e wy ⟨rfl, rfl⟩))
  clear u0 u1 y1 y4 v0 v1
  refine wp_region_par 4 [] [] [] [] [] (fun wx => CF w2 (w.heap.size + 2) wx)
        [fun v _ => v = .agg (devC d ta tc qa qc da dc la lc), fun v _ => v = .agg (akC x 0), fun v wx => ∃ b, (v = .slice (some ⟨b, 0, none⟩) 1 1 ∧ w2.heap.size ≤ b) ∧ wx.heap[b]? = some (.cells (akC x 0) 60 (0, 0)), fun _ wx => wx.heap[w.heap.size + 2]? = some (.cells (devC d ta tc qa qc da dc la lc) 27 (0, 0))] (by kernel_rfl) (by kernel_rfl) (by kernel_rfl) (CF.refl rfl S0.out.hz).drew (inits_nil) ?_ ?_
  · intro i hi9
    have hst := stab_all (posts := [fun v _ => v = .agg (devC d ta tc qa qc da dc la lc), fun v _ => v = .agg (akC x 0), fun v wx => ∃ b, (v = .slice (some ⟨b, 0, none⟩) 1 1 ∧ w2.heap.size ≤ b) ∧ wx.heap[b]? = some (.cells (akC x 0) 60 (0, 0)), fun _ wx => wx.heap[w.heap.size + 2]? = some (.cells (devC d ta tc qa qc da dc la lc) 27 (0, 0))])        (stab_cons (stab_const _) (stab_cons (stab_const _) (stab_cons (stab_blk (fun b v => v = .slice (some ⟨b, 0, none⟩) 1 1 ∧ w2.heap.size ≤ b) (fun b => b) (fun b => .cells (akC x 0) 60 (0, 0))) (stab_cons (fun _ _ _ k h => k.blk h (fun x => x)) stab_nil))))
    have hist := init_stab (inits := []) (fun p h => by cases h)
    have HST := Lib.hid hst
    have HIST := Lib.hid hist
    clear hst hist
    rcases (show i = 0 ∨ i = 1 ∨ i = 2 ∨ i = 3 by omega) with rfl | rfl | rfl | rfl
    · refine asks_intro ?_; intro o ho a wx hc hout hp hi R hR; cases ho
      have e2 : a.tmps[2]? = some (.pointer (some ⟨w.heap.size, 0, none⟩)) := hout 2 rfl
      refine gives_load_big bigDev (.tmp 2) rfl w.heap.size 0 (devC d ta tc qa qc da dc la lc) (by go_simp) (range_blk (hc.blk S0.out.hd (by omega))) rfl ?_
      exact hR _ _ hc rfl (fun _ _ _ _ _ u h => h) (fun _ _ h => h)
    · refine asks_intro ?_; intro o ho a wx hc hout hp hi R hR; cases ho
      have e7 : a.tmps[7]? = some (.pointer (some ⟨w1.heap.size, 0, none⟩)) := hout 7 rfl
      refine gives_load_big bigAk (.tmp 7) rfl w1.heap.size 0 (akC x 0) (by go_simp) (range_blk (hc.blk S0.out.ha (by omega))) rfl ?_
      exact hR _ _ hc rfl (fun _ _ _ _ _ u h => h) (fun _ _ h => h)
    · refine asks_intro ?_; intro o ho a wx hc hout hp hi R hR; cases ho
      have e45 : a.tmps[45]?.getD undef = .agg (akC x 0) := hp 1 (by omega) rfl
      go_simp
      exact hR _ _ (hc.alloc _) ⟨_, ⟨rfl, hc.1.size⟩, blk_new _ _⟩ (fun j _ _ _ _ u h => HST.out j u _ _ ((Kept.refl _ _).alloc _) h) (fun j _ h => HIST.out j _ _ ((Kept.refl _ _).alloc _) h)
    · refine asks_intro ?_; intro o ho a wx hc hout hp hi R hR; cases ho
      have e44 : a.tmps[44]?.getD undef = .agg (devC d ta tc qa qc da dc la lc) := hp 0 (by omega) rfl
      have e4 : a.tmps[4]? = some (.pointer (some ⟨w.heap.size + 2, 0, none⟩)) := hout 4 rfl
      obtain ⟨hck, z9, hz7, hz9⟩ := hc
      refine gives_store_bigb (cs := devC d ta tc qa qc da dc la lc) bigDev (.tmp 4) (.tmp 44) rfl (w.heap.size + 2) (by go_simp) (by go_simp) hz9 hz7 rfl (dev1 _ _ _ _ _ _ _ _ _) ?_
      refine hR _ _ (CF.put ⟨hck, z9, hz7, hz9⟩ _ rfl) (putB_blk _ _ _ _ (lt_of_block hz9)) (fun j hj hne hcn hwf u h => ?_) (fun q hq h => ?_)
      · rcases (show j = 0 ∨ j = 1 ∨ j = 2 ∨ j = 3 by omega) with rfl | rfl | rfl | rfl <;> first | exact h | exact absurd hcn (by decide) | exact absurd rfl hne | (obtain ⟨b, ⟨q1, q2⟩, q3⟩ := h; have q2 : w2.heap.size ≤ b := q2; have hz9 := S0.out.bxlt HM.out _ (.inr (.inr (.inl rfl))); exact ⟨b, ⟨q1, q2⟩, (putB_blk_ne _ _ _ _ _ (by omega)).trans q3⟩)
      · trivial
  · intro vs w' hc hp
    have e44 : vs 0 = .agg (devC d ta tc qa qc da dc la lc) := hp 0 (by omega) rfl
    have e45 : vs 1 = .agg (akC x 0) := hp 1 (by omega) rfl
    obtain ⟨b, e46, hb46⟩ : ∃ b, (vs 2 = .slice (some ⟨b, 0, none⟩) 1 1 ∧ w2.heap.size ≤ b) ∧ w'.heap[b]? = some (.cells (akC x 0) 60 (0, 0)) := hp 2 (by omega) rfl
    obtain ⟨_, hbg3⟩ : ∃ _ : Value, w'.heap[w.heap.size + 2]? = some (.cells (devC d ta tc qa qc da dc la lc) 27 (0, 0)) := hp 3 (by omega) rfl
    simp only [List.take_succ_cons, List.take_zero, List.drop_succ_cons, List.drop_zero, putAll, Act.put, List.setIfInBounds_toArray, List.set_cons_zero, List.set_cons_succ, Nat.reduceAdd, e44, e45]
    obtain ⟨e46, hsb⟩ := e46
    rw [e46]
    change wpList _ _ _ _ _ _
    have HB4 := Lib.hid hbg3
    have HAK := Lib.hid hb46
    have HC9 := Lib.hid hc
    clear hbg3 hb46 hc hp
    go_wp2_with fail
    have hl0 : _root_.Go.World.cell? _ ⟨w.heap.size + 2, 0, none⟩ = _ := cell_blk HB4.out 0 _ dv0
    have hl1 : _root_.Go.World.cell? _ ⟨w.heap.size + 2, 1, none⟩ = _ := cell_blk HB4.out 1 _ dv1
    have hl2 : _root_.Go.World.cell? _ ⟨w.heap.size + 2, 2, none⟩ = _ := cell_blk HB4.out 2 _ dv2
    have hl3 : _root_.Go.World.cell? _ ⟨w.heap.size + 2, 3, none⟩ = _ := cell_blk HB4.out 3 _ dv3
    have hl4 : _root_.Go.World.cell? _ ⟨w.heap.size + 2, 4, none⟩ = _ := cell_blk HB4.out 4 _ dv4
    have hl5 : _root_.Go.World.cell? _ ⟨w.heap.size + 2, 5, none⟩ = _ := cell_blk HB4.out 5 _ dv5
    have hl6 : _root_.Go.World.cell? _ ⟨w.heap.size + 2, 6, none⟩ = _ := cell_blk HB4.out 6 _ dv6
    refine bodyPost_ret (v := .tuple #[.agg (devC d ta tc qa qc da dc la lc), .slice (some ⟨b, 0, none⟩) 1 1, .int .i64 0]) (by simp [results, Try.results18, go_sem, devC, hl0, hl1, hl2, hl3, hl4, hl5, hl6]) rfl ?_
    have FD := S0.out.dev HC9.out.1
    exact ⟨_, _, rfl, FD.1, acks_one (a := ⟨x.ep, x.seq, 0⟩) HAK.out HM.out (by have := S0.out.kp.size; omega), FD.2⟩
theorem rrecv_wait1 (d : Dev) (x : Wr) (ta qa da la : Option Addr) (tc qc dc lc : Nat) (M : Nat → Prop) (w : World) (h : DevR w M d ta tc qa qc da dc la lc) (hM : ∀ i, M i → i < w.heap.size) (hql : d.queue.length ≤ 1000) (hdl : d.done.length ≤ 1000) (hf : formedB x = true) (hep : x.ep = d.ep) (hh : hasI d.done x.seq = false) (hw : hasSeq d.queue x.seq = true) (he : earlyW d x = true) :
    Calls Try.prog 18 #[.agg (devC d ta tc qa qc da dc la lc), .agg (wrC x)] w (RecvPost M w (d) ([⟨x.ep, x.seq, 0⟩])) := by
  have KB := Lib.hid ((((Kept.refl NoM w).alloc (.cells (devC d ta tc qa qc da dc la lc) 27)).alloc (.cells (wrC x) 41)).alloc (.cells devZC 27))
  have B0 := Lib.hid (blk_old (blk_old (blk_new w (.cells (devC d ta tc qa qc da dc la lc) 27)) (.cells (wrC x) 41)) (.cells devZC 27))
  have B1 := Lib.hid (blk_old (blk_new' (w.alloc (.cells (devC d ta tc qa qc da dc la lc) 27)) (.cells (wrC x) 41) (w.heap.size + 1) (by simp)) (.cells devZC 27))
  have B4 := Lib.hid (blk_new' ((w.alloc (.cells (devC d ta tc qa qc da dc la lc) 27)).alloc (.cells (wrC x) 41)) (.cells devZC 27) (w.heap.size + 2) (by simp))
  have HH := Lib.hid h
  have HM := Lib.hid hM
  have HF := Lib.hid hf
  have FM := Lib.hid (rformed_ok x (((w.alloc (.cells (devC d ta tc qa qc da dc la lc) 27)).alloc (.cells (wrC x) 41)).alloc (.cells devZC 27)))
  clear h hM hf
  have f1 : ¬ x.ep < d.ep := by omega
  have f2 : ¬ x.ep > d.ep := by omega
  clear hep
  have HS := Lib.hid hh
  have HQ := Lib.hid hw
  clear hh hw
  have HE := Lib.hid he
  clear he
  go_enter Try.func18, Try.ntmps18
  go_wp2_with (first
      | (refine wpList_alloc_Z rfl 27 rfl _ (devZ _) ?_)
      | (refine wpList_load_big bigWr rfl _ rfl (w.heap.size + 1) 0 (wrC x) rfl (range_blk B1.out) rfl ?_))
  refine FM.out.mono ?_
  rintro e w1 ⟨e1, k1⟩
  rw [HF.out] at e1
  subst e1
  have K1 := Lib.hid (KB.out.trans k1)
  have C0 := Lib.hid (k1.blk B0.out (fun x => x))
  have C1 := Lib.hid (k1.blk B1.out (fun x => x))
  have C4 := Lib.hid (k1.blk B4.out (fun x => x))
  have hz1 := lt_of_block C4.out
  clear k1 KB FM B0 B1 B4
  have S0 := Lib.hid (BxSt.start (M := M) (A := w1.heap.size) C0.out C4.out C1.out ((HH.out.mono (fun i hi q => by rcases q with q | q | q | q | q; exact q; all_goals omega)).kept K1.out.of_no) K1.out ⟨by omega, by omega, by omega, by omega⟩ ⟨by omega, by omega, by omega, by omega, by omega, by omega⟩ rfl)
  have v0 := cell_blk C1.out 0 _ (wrC_0 x)
  have v1 := cell_blk C1.out 1 _ (wrC_1 x)
  clear C0 C1 C4 HH K1
  go_wp2_with (first
      | (refine wpList_alloc_Z rfl 60 rfl _ (akZ _) ?_)
      | (refine wpList_store_bign (cs := akC x 0) bigAk rfl _ _ rfl w1.heap.size (by simp) rfl rfl rfl rfl (ak1 x 0) ?_; unfold akC; generalize (w1.alloc (.cells #[.int .i64 x.ep, .int .i64 x.seq, .int .i64 0] 60)) = w2 at *; have u0 := cell_blk S0.out.hx 0 _ (wrC_0 x); have u1 := cell_blk S0.out.hx 1 _ (wrC_1 x); have y1 := cell_blk S0.out.hd 1 _ dv1; have y4 := cell_blk S0.out.hd 4 _ dv4)
      | (go_at_call 58; refine (rhas_ok _ d.done (BX M w.heap.size (w.heap.size + 2) (w.heap.size + 1) w1.heap.size) x.seq _ S0.out.rd.rd (by omega)).mono ?_; rw [HS.out]; rintro e wy ⟨rfl, rfl⟩))
  clear u0 u1 y1 y4 v0 v1
  go_loopw [8, 9] (fun t i wr => ∃ k : Nat, k ≤ d.queue.length ∧ i = .int .i64 k ∧ t = .bool (hasSeq (d.queue.take k) x.seq) ∧ Hid (BxSt w M x w.heap.size (w.heap.size + 2) (w.heap.size + 1) w1.heap.size wr (d) 0 ta qa da la tc qc dc lc)) (fun _ i _ => d.queue.length - (intOf i).toNat)
  case atStart => exact ⟨0, Nat.zero_le _, rfl, rfl, S0⟩
  case round =>
    obtain ⟨k, hk, rfl, rfl, SK⟩ := hrel
    have y3 := cell_blk SK.out.hd 3 _ dv3
    by_cases hlt : k < d.queue.length
    · have hki : (k : Int) < d.queue.length := by omega
      obtain ⟨y, hy⟩ := getAt hlt
      obtain ⟨b, off, e1, hMb, hc⟩ := wr_at SK.out.rd.rq hy
      rw [e1] at y3
      have t1 := range_cell hc 1 _ (wrC_1 y)
      have v1 := cell_blk SK.out.hx 1 _ (wrC_1 x)
      have HT := Lib.hid (hasSeq_take (n := x.seq) hy)
      clear hc hMb hy e1
      rcases hB : hasSeq (d.queue.take k) x.seq with _ | _
      · by_cases hs : y.seq = x.seq
        · have HU := Lib.hid (show hasSeq (d.queue.take (k + 1)) x.seq = true by rw [HT.out, hB]; simp [hs])
          have f4 : (y.seq == x.seq) = true := by simpa using hs
          clear hs hB HT
          go_wp2_with fail
          go_quiet (fail)
          go_wp2_with fail
          go_roundw
          case rel => exact ⟨k + 1, by omega, by go_num, by rw [HU.out], Lib.hid (SK.out.kept ((Kept.refl NoM wr).drewN _))⟩
          case measure => simp [intOf]; omega
        · have HU := Lib.hid (show hasSeq (d.queue.take (k + 1)) x.seq = false by rw [HT.out, hB]; simp [hs])
          have f4 : (y.seq == x.seq) = false := by simpa using hs
          clear hs hB HT
          go_wp2_with fail
          go_quiet (fail)
          go_wp2_with fail
          go_roundw
          case rel => exact ⟨k + 1, by omega, by go_num, by rw [HU.out], Lib.hid (SK.out.kept ((Kept.refl NoM wr).drewN _))⟩
          case measure => simp [intOf]; omega
      · have HU := Lib.hid (show hasSeq (d.queue.take (k + 1)) x.seq = true by rw [HT.out, hB]; rfl)
        clear hB HT
        go_wp2_with fail
        go_quiet (fail)
        go_wp2_with fail
        go_roundw
        case rel => exact ⟨k + 1, by omega, by go_num, by rw [HU.out], Lib.hid (SK.out.kept ((Kept.refl NoM wr).drewN _))⟩
        case measure => simp [intOf]; omega
    · obtain rfl : k = d.queue.length := by omega
      have g1 := decide_eq_false (show ¬ ((d.queue.length : Nat) : Int) < d.queue.length by omega)
      have g2 := decide_eq_false (show ¬ d.queue.length < d.queue.length by omega)
      rw [show hasSeq (d.queue.take d.queue.length) x.seq = true by rw [List.take_length]; exact HQ.out]
      go_wp2_with (first | (refine wpList_load_big bigDev rfl _ rfl w.heap.size 0 (devC (d) ta tc qa qc da dc la lc) rfl (range_blk SK.out.hd) rfl ?_) | (refine wpList_load_big bigWr rfl _ rfl (w.heap.size + 1) 0 (wrC x) rfl (range_blk SK.out.hx) rfl ?_) | (go_at_call 59; refine (rearly_ok (d) x ta qa da la tc qc dc lc _).mono ?_; rw [HE.out]; rintro e w4 ⟨rfl, k4⟩; have S4 := Lib.hid (SK.out.kept k4); clear k4))
      refine wp_region_par 4 [] [] [] [] [] (fun wx => CF w4 (w.heap.size + 2) wx)
            [fun v _ => v = .agg (devC (d) ta tc qa qc da dc la lc), fun v _ => v = .agg (akC x 0), fun v wx => ∃ b, (v = .slice (some ⟨b, 0, none⟩) 1 1 ∧ w4.heap.size ≤ b) ∧ wx.heap[b]? = some (.cells (akC x 0) 60 (0, 0)), fun _ wx => wx.heap[w.heap.size + 2]? = some (.cells (devC (d) ta tc qa qc da dc la lc) 27 (0, 0))] (by kernel_rfl) (by kernel_rfl) (by kernel_rfl) (CF.refl rfl S4.out.hz).drew (inits_nil) ?_ ?_
      · intro i hi9
        have hst := stab_all (posts := [fun v _ => v = .agg (devC (d) ta tc qa qc da dc la lc), fun v _ => v = .agg (akC x 0), fun v wx => ∃ b, (v = .slice (some ⟨b, 0, none⟩) 1 1 ∧ w4.heap.size ≤ b) ∧ wx.heap[b]? = some (.cells (akC x 0) 60 (0, 0)), fun _ wx => wx.heap[w.heap.size + 2]? = some (.cells (devC (d) ta tc qa qc da dc la lc) 27 (0, 0))])        (stab_cons (stab_const _) (stab_cons (stab_const _) (stab_cons (stab_blk (fun b v => v = .slice (some ⟨b, 0, none⟩) 1 1 ∧ w4.heap.size ≤ b) (fun b => b) (fun b => .cells (akC x 0) 60 (0, 0))) (stab_cons (fun _ _ _ k h => k.blk h (fun x => x)) stab_nil))))
        have hist := init_stab (inits := []) (fun p h => by cases h)
        have HST := Lib.hid hst
        have HIST := Lib.hid hist
        clear hst hist
        rcases (show i = 0 ∨ i = 1 ∨ i = 2 ∨ i = 3 by omega) with rfl | rfl | rfl | rfl
        · refine asks_intro ?_; intro o ho a wx hc hout hp hi R hR; cases ho
          have e2 : a.tmps[2]? = some (.pointer (some ⟨w.heap.size, 0, none⟩)) := hout 2 rfl
          refine gives_load_big bigDev (.tmp 2) rfl w.heap.size 0 (devC (d) ta tc qa qc da dc la lc) (by go_simp) (range_blk (hc.blk S4.out.hd (by omega))) rfl ?_
          exact hR _ _ hc rfl (fun _ _ _ _ _ u h => h) (fun _ _ h => h)
        · refine asks_intro ?_; intro o ho a wx hc hout hp hi R hR; cases ho
          have e7 : a.tmps[7]? = some (.pointer (some ⟨w1.heap.size, 0, none⟩)) := hout 7 rfl
          refine gives_load_big bigAk (.tmp 7) rfl w1.heap.size 0 (akC x 0) (by go_simp) (range_blk (hc.blk S4.out.ha (by omega))) rfl ?_
          exact hR _ _ hc rfl (fun _ _ _ _ _ u h => h) (fun _ _ h => h)
        · refine asks_intro ?_; intro o ho a wx hc hout hp hi R hR; cases ho
          have e92 : a.tmps[92]?.getD undef = .agg (akC x 0) := hp 1 (by omega) rfl
          go_simp
          exact hR _ _ (hc.alloc _) ⟨_, ⟨rfl, hc.1.size⟩, blk_new _ _⟩ (fun j _ _ _ _ u h => HST.out j u _ _ ((Kept.refl _ _).alloc _) h) (fun j _ h => HIST.out j _ _ ((Kept.refl _ _).alloc _) h)
        · refine asks_intro ?_; intro o ho a wx hc hout hp hi R hR; cases ho
          have e91 : a.tmps[91]?.getD undef = .agg (devC (d) ta tc qa qc da dc la lc) := hp 0 (by omega) rfl
          have e4 : a.tmps[4]? = some (.pointer (some ⟨w.heap.size + 2, 0, none⟩)) := hout 4 rfl
          obtain ⟨hck, z9, hz7, hz9⟩ := hc
          refine gives_store_bigb (cs := devC (d) ta tc qa qc da dc la lc) bigDev (.tmp 4) (.tmp 91) rfl (w.heap.size + 2) (by go_simp) (by go_simp) hz9 hz7 rfl (dev1 _ _ _ _ _ _ _ _ _) ?_
          refine hR _ _ (CF.put ⟨hck, z9, hz7, hz9⟩ _ rfl) (putB_blk _ _ _ _ (lt_of_block hz9)) (fun j hj hne hcn hwf u h => ?_) (fun q hq h => ?_)
          · rcases (show j = 0 ∨ j = 1 ∨ j = 2 ∨ j = 3 by omega) with rfl | rfl | rfl | rfl <;> first | exact h | exact absurd hcn (by decide) | exact absurd rfl hne | (obtain ⟨b, ⟨q1, q2⟩, q3⟩ := h; have q2 : w4.heap.size ≤ b := q2; have hz9 := S4.out.bxlt HM.out _ (.inr (.inr (.inl rfl))); exact ⟨b, ⟨q1, q2⟩, (putB_blk_ne _ _ _ _ _ (by omega)).trans q3⟩)
          · trivial
      · intro vs w' hc hp
        have e91 : vs 0 = .agg (devC (d) ta tc qa qc da dc la lc) := hp 0 (by omega) rfl
        have e92 : vs 1 = .agg (akC x 0) := hp 1 (by omega) rfl
        obtain ⟨b, e93, hb93⟩ : ∃ b, (vs 2 = .slice (some ⟨b, 0, none⟩) 1 1 ∧ w4.heap.size ≤ b) ∧ w'.heap[b]? = some (.cells (akC x 0) 60 (0, 0)) := hp 2 (by omega) rfl
        obtain ⟨_, hbg3⟩ : ∃ _ : Value, w'.heap[w.heap.size + 2]? = some (.cells (devC (d) ta tc qa qc da dc la lc) 27 (0, 0)) := hp 3 (by omega) rfl
        simp only [List.take_succ_cons, List.take_zero, List.drop_succ_cons, List.drop_zero, putAll, Act.put, List.setIfInBounds_toArray, List.set_cons_zero, List.set_cons_succ, Nat.reduceAdd, e91, e92]
        obtain ⟨e93, hsb⟩ := e93
        rw [e93]
        change wpList _ _ _ _ _ _
        have HB4 := Lib.hid hbg3
        have HAK := Lib.hid hb93
        have HC9 := Lib.hid hc
        clear hbg3 hb93 hc hp
        go_wp2_with fail
        have hl0 : _root_.Go.World.cell? _ ⟨w.heap.size + 2, 0, none⟩ = _ := cell_blk HB4.out 0 _ dv0
        have hl1 : _root_.Go.World.cell? _ ⟨w.heap.size + 2, 1, none⟩ = _ := cell_blk HB4.out 1 _ dv1
        have hl2 : _root_.Go.World.cell? _ ⟨w.heap.size + 2, 2, none⟩ = _ := cell_blk HB4.out 2 _ dv2
        have hl3 : _root_.Go.World.cell? _ ⟨w.heap.size + 2, 3, none⟩ = _ := cell_blk HB4.out 3 _ dv3
        have hl4 : _root_.Go.World.cell? _ ⟨w.heap.size + 2, 4, none⟩ = _ := cell_blk HB4.out 4 _ dv4
        have hl5 : _root_.Go.World.cell? _ ⟨w.heap.size + 2, 5, none⟩ = _ := cell_blk HB4.out 5 _ dv5
        have hl6 : _root_.Go.World.cell? _ ⟨w.heap.size + 2, 6, none⟩ = _ := cell_blk HB4.out 6 _ dv6
        refine bodyPost_ret (v := .tuple #[.agg (devC (d) ta tc qa qc da dc la lc), .slice (some ⟨b, 0, none⟩) 1 1, .int .i64 0]) (by simp [results, Try.results18, go_sem, devC, hl0, hl1, hl2, hl3, hl4, hl5, hl6]) rfl ?_
        have FD := S4.out.dev HC9.out.1
        exact ⟨_, _, rfl, FD.1, acks_one (a := ⟨x.ep, x.seq, 0⟩) HAK.out HM.out (by have := S4.out.kp.size; omega), FD.2⟩
end Go.Proofs.Ytghgegghlefclaa
