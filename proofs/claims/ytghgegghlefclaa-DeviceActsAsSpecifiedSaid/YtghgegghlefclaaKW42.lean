/- Walks: the laws' sanity. -/
import Derived.Test.YtghgegghlefclaaKV14
import Derived.Test.YtghgegghlefclaaKRP
set_option linter.unusedVariables false
set_option linter.unusedSimpArgs false
set_option linter.unusedSectionVars false
namespace Go.Proofs.Ytghgegghlefclaa
open Go.RowKit
set_option maxHeartbeats 4000000
set_option maxRecDepth 8000
theorem stab_tup2 (D : Dev) (A : List Ak) : ∀ (u : Value) w w', Kept NoM w w' → (∃ v av, u = .tuple #[v, av] ∧ DevV w NoM v D ∧ RdS w NoM 3 EAk av A) → ∃ v av, u = .tuple #[v, av] ∧ DevV w' NoM v D ∧ RdS w' NoM 3 EAk av A :=
  fun u w w' k ⟨v, av, h1, h2, h3⟩ => ⟨v, av, h1, h2.kept0 k, h3.kept k.of_no (fun _ _ x => x)⟩
theorem sanity_ok (w : World) : Calls Try.prog 9 #[] w fun e w' => e = .returned (.bool true) ∧ Kept NoM w w' := by
  go_enter Try.func9, Try.ntmps9
  go_wp2_with (first
      | (refine wpList_alloc_Z rfl 27 rfl _ (devZ _) ?_)
      | (refine wpList_alloc_Z rfl 41 rfl _ (wrZ _) ?_)
      | (refine wpList_alloc_Z rfl 60 rfl _ (akZ _) ?_)
      | (refine wpList_store_bign (cs := devC exD none 0 none 0 none 0 none 0) bigDev rfl _ _ rfl w1.heap.size rfl rfl rfl rfl rfl (dev1 _ _ _ _ _ _ _ _ _) ?_)
      | (refine wpList_store_bign (cs := wrC exDrop) bigWr rfl _ _ rfl _ rfl rfl rfl rfl rfl (wr1 exDrop) ?_)
      | (go_at_call 35; refine (exnew _).mono ?_; rintro e w1 ⟨rfl, k1⟩))
  have K5 := Lib.hid ((k1.alloc (.cells (devC exD none 0 none 0 none 0 none 0) 27)).alloc (.cells (wrC exDrop) 41))
  have HD := Lib.hid (blk_old (blk_new w1 (.cells (devC exD none 0 none 0 none 0 none 0) 27)) (.cells (wrC exDrop) 41))
  have HX3 := Lib.hid (blk_new (w1.alloc (.cells (devC exD none 0 none 0 none 0 none 0) 27)) (.cells (wrC exDrop) 41))
  generalize (w1.alloc (.cells (devC exD none 0 none 0 none 0 none 0) 27)).heap.size = D3 at *
  generalize (w1.alloc (.cells (devC exD none 0 none 0 none 0 none 0) 27)).alloc (.cells (wrC exDrop) 41) = w5 at *
  have HR : Hid (DevR w5 NoM exD none 0 none 0 none 0 none 0) := Lib.hid ⟨rd_nil0, rd_nil0, rd_nil0, rd_nil0⟩
  have HNZ := Lib.hid exA_right.nz
  generalize w1.heap.size = D1 at *
  clear k1
  refine wp_region_see 12 [(11, 4)] [] [(10, 11)] [] [] [] (fun wx => Kept NoM w5 wx)
        [fun v _ => v = .agg (devC exD none 0 none 0 none 0 none 0), fun v _ => v = .agg (wrC (putW 1 5)), fun v _ => v = .agg (wrC (putW 2 7)), fun v _ => v = .agg (wrC exBar), fun v _ => v = .agg (wrC exDrop), fun v wx => ∃ _ : Unit, RdS wx NoM 26 EWr v exL1, fun v wx => ∃ tv tav, v = .tuple #[tv, tav] ∧ DevV wx NoM tv exA ∧ RdS wx NoM 3 EAk tav [], fun v wx => ∃ tv tav, v = .tuple #[tv, tav] ∧ DevV wx NoM tv exA ∧ RdS wx NoM 3 EAk tav [], fun v wx => ∃ _ : Unit, DevV wx NoM v exA, fun v wx => ∃ _ : Unit, RdS wx NoM 3 EAk v [], fun v wx => ∃ b, (v = .pointer (some ⟨b, 0, none⟩) ∧ w5.heap.size ≤ b) ∧ wx.heap[b]? = some (.cells devZC 27 (0, 0)), fun v wx => ∃ (b : Nat) (c : Array Value), v = .pointer (some ⟨b, 0, none⟩) ∧ w5.heap.size ≤ b ∧ c.size = 7 ∧ wx.heap[b]? = some (.cells c 27 (0, 0)) ∧ DevV wx NoM (.agg c) exA] (by kernel_rfl) (by kernel_rfl) (by kernel_rfl) (by kernel_rfl) (Kept.refl NoM w5).drew (inits_nil) ?_ ?_
  · intro i hi9
    have hst := stab_all (posts := [fun v _ => v = .agg (devC exD none 0 none 0 none 0 none 0), fun v _ => v = .agg (wrC (putW 1 5)), fun v _ => v = .agg (wrC (putW 2 7)), fun v _ => v = .agg (wrC exBar), fun v _ => v = .agg (wrC exDrop), fun v wx => ∃ _ : Unit, RdS wx NoM 26 EWr v exL1, fun v wx => ∃ tv tav, v = .tuple #[tv, tav] ∧ DevV wx NoM tv exA ∧ RdS wx NoM 3 EAk tav [], fun v wx => ∃ tv tav, v = .tuple #[tv, tav] ∧ DevV wx NoM tv exA ∧ RdS wx NoM 3 EAk tav [], fun v wx => ∃ _ : Unit, DevV wx NoM v exA, fun v wx => ∃ _ : Unit, RdS wx NoM 3 EAk v [], fun v wx => ∃ b, (v = .pointer (some ⟨b, 0, none⟩) ∧ w5.heap.size ≤ b) ∧ wx.heap[b]? = some (.cells devZC 27 (0, 0)), fun v wx => ∃ (b : Nat) (c : Array Value), v = .pointer (some ⟨b, 0, none⟩) ∧ w5.heap.size ≤ b ∧ c.size = 7 ∧ wx.heap[b]? = some (.cells c 27 (0, 0)) ∧ DevV wx NoM (.agg c) exA])        (stab_cons (stab_const _) (stab_cons (stab_const _) (stab_cons (stab_const _) (stab_cons (stab_const _) (stab_cons (stab_const _) (stab_cons (fun _ _ _ k ⟨u, h⟩ => ⟨u, h.kept k.of_no (fun _ _ x => x)⟩) (stab_cons (stab_tup2 _ _) (stab_cons (stab_tup2 _ _) (stab_cons (fun _ _ _ k ⟨u, h⟩ => ⟨u, h.kept0 k⟩) (stab_cons (fun _ _ _ k ⟨u, h⟩ => ⟨u, h.kept k.of_no (fun _ _ x => x)⟩) (stab_cons (stab_blk (fun b v => v = .pointer (some ⟨b, 0, none⟩) ∧ w5.heap.size ≤ b) (fun b => b) (fun b => .cells devZC 27 (0, 0))) (stab_cons (fun _ _ _ k ⟨b, c, h1, h2, h3, h4, h5⟩ => ⟨b, c, h1, h2, h3, k.blk h4 (fun x => x), h5.kept0 k⟩) stab_nil))))))))))))
    have hist := init_stab (inits := []) (fun p h => by cases h)
    have HST := Lib.hid hst
    have HIST := Lib.hid hist
    clear hst hist
    rcases (show i = 0 ∨ i = 1 ∨ i = 2 ∨ i = 3 ∨ i = 4 ∨ i = 5 ∨ i = 6 ∨ i = 7 ∨ i = 8 ∨ i = 9 ∨ i = 10 ∨ i = 11 by omega) with rfl | rfl | rfl | rfl | rfl | rfl | rfl | rfl | rfl | rfl | rfl | rfl
    · refine asksS_intro ?_; intro o ho a wx hc hout hp hi R hR; cases ho
      have e1 : a.tmps[1]? = some (.pointer (some ⟨D1, 0, none⟩)) := hout 1 rfl
      refine gives_load_big bigDev (.tmp 1) rfl D1 0 (devC exD none 0 none 0 none 0 none 0) (by go_simp) (range_blk (hc.blk HD.out (fun x => x))) rfl ?_
      exact hR _ _ hc rfl (fun _ _ _ _ _ u h => h) (fun _ _ h => h)
    · refine asksS_intro ?_; intro o ho a wx hc hout hp hi R hR; cases ho
      go_simp
      refine (lput_ok 1 5 wx).mono ?_
      rintro e w2 ⟨rfl, q3⟩
      exact ⟨_, rfl, hR _ _ (hc.trans q3) rfl (fun j _ _ _ _ u h => HST.out j u _ _ q3 h) (fun j _ h => HIST.out j _ _ q3 h)⟩
    · refine asksS_intro ?_; intro o ho a wx hc hout hp hi R hR; cases ho
      go_simp
      refine (lput_ok 2 7 wx).mono ?_
      rintro e w2 ⟨rfl, q3⟩
      exact ⟨_, rfl, hR _ _ (hc.trans q3) rfl (fun j _ _ _ _ u h => HST.out j u _ _ q3 h) (fun j _ h => HIST.out j _ _ q3 h)⟩
    · refine asksS_intro ?_; intro o ho a wx hc hout hp hi R hR; cases ho
      go_simp
      exact hR _ _ hc rfl (fun _ _ _ _ _ u h => h) (fun _ _ h => h)
    · refine asksS_intro ?_; intro o ho a wx hc hout hp hi R hR; cases ho
      have e3 : a.tmps[3]? = some (.pointer (some ⟨D3, 0, none⟩)) := hout 3 rfl
      refine gives_load_big bigWr (.tmp 3) rfl D3 0 (wrC exDrop) (by go_simp) (range_blk (hc.blk HX3.out (fun x => x))) rfl ?_
      exact hR _ _ hc rfl (fun _ _ _ _ _ u h => h) (fun _ _ h => h)
    · refine asksS_intro ?_; intro o ho a wx hc hout hp hi R hR; cases ho
      have e29 : a.tmps[29]?.getD undef = .agg (wrC (putW 1 5)) := hp 1 (by omega) rfl
      have e30 : a.tmps[30]?.getD undef = .agg (wrC (putW 2 7)) := hp 2 (by omega) rfl
      have e31 : a.tmps[31]?.getD undef = .agg (wrC exBar) := hp 3 (by omega) rfl
      have e32 : a.tmps[32]?.getD undef = .agg (wrC exDrop) := hp 4 (by omega) rfl
      go_simp
      exact hR _ _ (hc.alloc _) ⟨(), rd_flat (f := wrL) (xs := exL1) (fun _ => rfl) wrL_len (blk_new _ _) (fun x => x) rfl (by unfold maxLen; omega)⟩ (fun j _ _ _ _ u h => HST.out j u _ _ ((Kept.refl _ _).alloc _) h) (fun j _ h => HIST.out j _ _ ((Kept.refl _ _).alloc _) h)
    · refine asksS_intro ?_; intro o ho a wx hc hout hp hi R hR; cases ho
      have e28 : a.tmps[28]?.getD undef = .agg (devC exD none 0 none 0 none 0 none 0) := hp 0 (by omega) rfl
      obtain ⟨_, q33⟩ : ∃ _ : Unit, RdS wx NoM 26 EWr (a.tmps[33]?.getD undef) exL1 := hp 5 (by omega) rfl
      go_simp
      refine (exrec1 _ _ wx ⟨_, _, _, _, _, _, _, _, rfl, HR.out.kept hc.of_no⟩ q33).mono ?_
      rintro e w2 ⟨v, av, rfl, q1, q2, q3⟩
      exact ⟨_, rfl, hR _ _ (hc.trans q3) ⟨v, av, rfl, q1, q2⟩ (fun j _ _ _ _ u h => HST.out j u _ _ q3 h) (fun j _ h => HIST.out j _ _ q3 h)⟩
    · refine asksS_intro ?_; intro o ho a wx hc hout hp hi R hR; cases ho
      obtain ⟨tv, tav, e34, tv2, tv3⟩ : ∃ tv tav, (a.tmps[34]?.getD undef) = .tuple #[tv, tav] ∧ DevV wx NoM tv exA ∧ RdS wx NoM 3 EAk tav [] := hp 6 (by omega) rfl
      go_simp
      exact hR _ _ hc ⟨tv, tav, rfl, tv2, tv3⟩ (fun _ _ _ _ _ u h => h) (fun _ _ h => h)
    · refine asksS_intro ?_; intro o ho a wx hc hout hp hi R hR; cases ho
      obtain ⟨tv, tav, e27, tv2, tv3⟩ : ∃ tv tav, (a.tmps[27]?.getD undef) = .tuple #[tv, tav] ∧ DevV wx NoM tv exA ∧ RdS wx NoM 3 EAk tav [] := hp 7 (by omega) rfl
      go_simp
      exact hR _ _ hc ⟨(), tv2⟩ (fun _ _ _ _ _ u h => h) (fun _ _ h => h)
    · refine asksS_intro ?_; intro o ho a wx hc hout hp hi R hR; cases ho
      obtain ⟨tv, tav, e27, tv2, tv3⟩ : ∃ tv tav, (a.tmps[27]?.getD undef) = .tuple #[tv, tav] ∧ DevV wx NoM tv exA ∧ RdS wx NoM 3 EAk tav [] := hp 7 (by omega) rfl
      go_simp
      exact hR _ _ hc ⟨(), tv3⟩ (fun _ _ _ _ _ u h => h) (fun _ _ h => h)
    · refine asksS_intro ?_; intro o ho a wx hc hout hp hi R hR; cases ho
      refine gives_alloc_Z 27 rfl _ (devZ _) ?_
      exact hR _ _ (hc.alloc _) ⟨_, ⟨rfl, hc.size⟩, blk_new _ _⟩ (fun j _ _ _ _ u h => HST.out j u _ _ ((Kept.refl _ _).alloc _) h) (fun j _ h => HIST.out j _ _ ((Kept.refl _ _).alloc _) h)
    · refine asksS_intro ?_; intro o ho a wx hc hout hp hi R hR; cases ho
      obtain ⟨_, q35⟩ : ∃ _ : Unit, DevV wx NoM (a.tmps[35]?.getD undef) exA := hp 8 (by omega) rfl
      obtain ⟨b, e4, hb4⟩ : ∃ b, (a.tmps[4]?.getD undef = .pointer (some ⟨b, 0, none⟩) ∧ w5.heap.size ≤ b) ∧ wx.heap[b]? = some (.cells devZC 27 (0, 0)) := hp 10 (by omega) rfl
      obtain ⟨e4, hs8⟩ := e4
      obtain ⟨sta, stc, sqa, sqc, sda, sdc, sla, slc, e35, qr⟩ := q35
      refine gives_store_bigb (cs := devC exA sta stc sqa sqc sda sdc sla slc) bigDev (.tmp 4) (.tmp 35) rfl b (by go_simp) (by go_simp) hb4 rfl rfl (dev1 _ _ _ _ _ _ _ _ _) ?_
      refine hR _ _ (hc.putN hs8 _ _) ⟨b, _, e4, hs8, rfl, putB_blk _ _ _ _ (lt_of_block hb4), ⟨_, _, _, _, _, _, _, _, rfl, qr.putZ HNZ.out hb4 _⟩⟩ (fun j hj hne hcn hwf u h => ?_) (fun q hq h => ?_)
      · rcases (show j = 0 ∨ j = 1 ∨ j = 2 ∨ j = 3 ∨ j = 4 ∨ j = 5 ∨ j = 6 ∨ j = 7 ∨ j = 8 ∨ j = 9 ∨ j = 10 ∨ j = 11 by omega) with rfl | rfl | rfl | rfl | rfl | rfl | rfl | rfl | rfl | rfl | rfl | rfl <;> first | exact h | exact absurd hcn (by decide) | exact absurd rfl hne | (obtain ⟨u0, h2⟩ := h; exact ⟨u0, wrs_putZ h2 hb4 _⟩) | (obtain ⟨v0, av0, h1, h2, h3⟩ := h; exact ⟨v0, av0, h1, h2.putZ HNZ.out hb4 _, acks_putZ h3 hb4 _⟩) | (obtain ⟨u0, h2⟩ := h; exact ⟨u0, h2.putZ HNZ.out hb4 _⟩) | (obtain ⟨u0, h2⟩ := h; exact ⟨u0, acks_putZ h2 hb4 _⟩) | exact absurd (hwf.symm.trans (by kernel_rfl)) Bool.false_ne_true
      · trivial
  · intro vs w' hc hp
    obtain ⟨_, q36⟩ : ∃ _ : Unit, RdS w' NoM 3 EAk (vs 9) [] := hp 9 (by omega) rfl
    obtain ⟨b, c, e8, hb8, hc8, hbb8, q8⟩ : ∃ (b : Nat) (c : Array Value), (vs 10) = .pointer (some ⟨b, 0, none⟩) ∧ w5.heap.size ≤ b ∧ c.size = 7 ∧ w'.heap[b]? = some (.cells c 27 (0, 0)) ∧ DevV w' NoM (.agg c) exA := hp 11 (by omega) rfl 10 (by omega) rfl
    simp only [List.take_succ_cons, List.take_zero, List.drop_succ_cons, List.drop_zero, putAll, Act.put, List.setIfInBounds_toArray, List.set_cons_zero, List.set_cons_succ, Nat.reduceAdd]
    rw [e8]
    obtain ⟨ta4, tc4, qa4, qc4, da4, dc4, la4, lc4, en, qn⟩ := q8
    obtain rfl := Value.agg.inj en
    change wpList _ _ _ _ _ _
    have K6 := Lib.hid (K5.out.trans hc)
    have HC9 := Lib.hid hc
    have HD4 := Lib.hid hbb8
    have HR4 := Lib.hid qn
    obtain ⟨a5, c5, ea5, _, _⟩ := q36.shape
    have eb5 : vs 9 = .slice a5 0 c5 := ea5
    have HA5 := Lib.hid q36
    clear hc hp hbb8 hb8 qn q36 en hc8 e8
    generalize w' = w6 at *
    rw [eb5] at HA5 ⊢
    clear ea5 eb5
    generalize b = B4 at *
    have HX6 := Lib.hid (HC9.out.blk HX3.out (fun x => x))
    clear HR HNZ HD HX3 HC9 K5
    go_wp2_with (first       | (refine wpList_load_big bigDev rfl _ rfl B4 0 (devC exA ta4 tc4 qa4 qc4 da4 dc4 la4 lc4) rfl (range_blk HD4.out) rfl ?_))
    refine (exdo1 _ _ _ ⟨_, _, _, _, _, _, _, _, rfl, HR4.out.kept ((Kept.refl NoM _).alloc _)⟩ (natRd (l := [1, 0]) (blk_new _ _) rfl (by decide))).mono ?_
    rintro e w7 ⟨v7, av7, rfl, dd7, aa7, k7⟩
    obtain ⟨ta6, tc6, qa6, qc6, da6, dc6, la6, lc6, rfl, r7⟩ := dd7
    obtain ⟨a7, c7, ea7, _, _⟩ := aa7.shape
    have ea8 : av7 = .slice a7 2 c7 := ea7
    subst ea8
    have HD6 := Lib.hid (blk_new w7 (.cells (devC exB ta6 tc6 qa6 qc6 da6 dc6 la6 lc6) 27))
    have HR6 := Lib.hid (r7.kept ((Kept.refl NoM w7).alloc (.cells (devC exB ta6 tc6 qa6 qc6 da6 dc6 la6 lc6) 27)))
    have HA7 := Lib.hid (aa7.kept (((Kept.refl NoM w7).alloc (.cells (devC exB ta6 tc6 qa6 qc6 da6 dc6 la6 lc6) 27)).of_no (M := NoM)) (fun _ _ x => x))
    have L7 := Lib.hid ((((Kept.refl NoM w6).alloc (.cells #[.int .i64 1, .int .i64 0] 3)).trans k7).alloc (.cells (devC exB ta6 tc6 qa6 qc6 da6 dc6 la6 lc6) 27))
    clear r7 aa7 k7 ea7
    go_wp2_with (first | (refine wpList_alloc_Z rfl 27 rfl _ (devZ _) ?_)       | (refine wpList_store_bign (cs := devC exB ta6 tc6 qa6 qc6 da6 dc6 la6 lc6) bigDev rfl _ _ rfl _ rfl rfl rfl rfl rfl (dev1 _ _ _ _ _ _ _ _ _) ?_)       | (refine wpList_load_big bigDev rfl _ rfl w7.heap.size 0 (devC exB ta6 tc6 qa6 qc6 da6 dc6 la6 lc6) rfl (range_blk HD6.out) rfl ?_))
    have hu7 : w7.heap.size + 1 = (w7.alloc (.cells (devC exB ta6 tc6 qa6 qc6 da6 dc6 la6 lc6) 27)).heap.size := by simp
    generalize w7.heap.size = B6 at *
    generalize w7.alloc (.cells (devC exB ta6 tc6 qa6 qc6 da6 dc6 la6 lc6) 27) = u7 at *
    refine (exdo2 _ _ _ ⟨_, _, _, _, _, _, _, _, rfl, HR6.out.kept ((Kept.refl NoM _).alloc _)⟩ (natRd (l := [0, 0]) (blk_new' u7 _ (B6 + 1) hu7) rfl (by decide))).mono ?_
    rintro e w8 ⟨v7, av7, rfl, dd7, aa7, k7⟩
    obtain ⟨ta8, tc8, qa8, qc8, da8, dc8, la8, lc8, rfl, r7⟩ := dd7
    obtain ⟨a9, c9, ea7, _, _⟩ := aa7.shape
    have ea8 : av7 = .slice a9 2 c9 := ea7
    subst ea8
    have HD8 := Lib.hid (blk_new w8 (.cells (devC exC ta8 tc8 qa8 qc8 da8 dc8 la8 lc8) 27))
    have HR8 := Lib.hid (r7.kept ((Kept.refl NoM w8).alloc (.cells (devC exC ta8 tc8 qa8 qc8 da8 dc8 la8 lc8) 27)))
    have HA9 := Lib.hid (aa7.kept (((Kept.refl NoM w8).alloc (.cells (devC exC ta8 tc8 qa8 qc8 da8 dc8 la8 lc8) 27)).of_no (M := NoM)) (fun _ _ x => x))
    have L8 := Lib.hid ((((Kept.refl NoM u7).alloc (.cells #[.int .i64 0, .int .i64 0] 3)).trans k7).alloc (.cells (devC exC ta8 tc8 qa8 qc8 da8 dc8 la8 lc8) 27))
    clear r7 aa7 k7 ea7
    go_wp2_with (first | (refine wpList_alloc_Z rfl 27 rfl _ (devZ _) ?_)       | (refine wpList_store_bign (cs := devC exC ta8 tc8 qa8 qc8 da8 dc8 la8 lc8) bigDev rfl _ _ rfl _ rfl rfl rfl rfl rfl (dev1 _ _ _ _ _ _ _ _ _) ?_))
    generalize w8.heap.size = B8 at *
    generalize w8.alloc (.cells (devC exC ta8 tc8 qa8 qc8 da8 dc8 la8 lc8) 27) = u8 at *
    have HNZ := Lib.hid exF_right.nz
    have KB8 := Lib.hid (L7.out.trans L8.out)
    refine wp_region_see 12 [(11, 10)] [] [(10, 11)] [] [] [] (fun wx => Kept NoM u8 wx)
          [fun v _ => v = .agg (devC exC ta8 tc8 qa8 qc8 da8 dc8 la8 lc8), fun v _ => v = .agg (wrC exOld), fun v _ => v = .agg (wrC (putW 2 7)), fun v _ => v = .agg (wrC (putW 5 1)), fun v _ => v = .agg (wrC (putW 6 2)), fun v wx => ∃ _ : Unit, RdS wx NoM 26 EWr v exL2, fun v wx => ∃ tv tav, v = .tuple #[tv, tav] ∧ DevV wx NoM tv exF ∧ RdS wx NoM 3 EAk tav [⟨2, 9, 22⟩, ⟨3, 2, 0⟩], fun v wx => ∃ tv tav, v = .tuple #[tv, tav] ∧ DevV wx NoM tv exF ∧ RdS wx NoM 3 EAk tav [⟨2, 9, 22⟩, ⟨3, 2, 0⟩], fun v wx => ∃ _ : Unit, DevV wx NoM v exF, fun v wx => ∃ _ : Unit, RdS wx NoM 3 EAk v [⟨2, 9, 22⟩, ⟨3, 2, 0⟩], fun v wx => ∃ b, (v = .pointer (some ⟨b, 0, none⟩) ∧ u8.heap.size ≤ b) ∧ wx.heap[b]? = some (.cells devZC 27 (0, 0)), fun v wx => ∃ (b : Nat) (c : Array Value), v = .pointer (some ⟨b, 0, none⟩) ∧ u8.heap.size ≤ b ∧ c.size = 7 ∧ wx.heap[b]? = some (.cells c 27 (0, 0)) ∧ DevV wx NoM (.agg c) exF] (by kernel_rfl) (by kernel_rfl) (by kernel_rfl) (by kernel_rfl) (Kept.refl NoM u8).drew (inits_nil) ?_ ?_
    · intro i hi9
      have hst := stab_all (posts := [fun v _ => v = .agg (devC exC ta8 tc8 qa8 qc8 da8 dc8 la8 lc8), fun v _ => v = .agg (wrC exOld), fun v _ => v = .agg (wrC (putW 2 7)), fun v _ => v = .agg (wrC (putW 5 1)), fun v _ => v = .agg (wrC (putW 6 2)), fun v wx => ∃ _ : Unit, RdS wx NoM 26 EWr v exL2, fun v wx => ∃ tv tav, v = .tuple #[tv, tav] ∧ DevV wx NoM tv exF ∧ RdS wx NoM 3 EAk tav [⟨2, 9, 22⟩, ⟨3, 2, 0⟩], fun v wx => ∃ tv tav, v = .tuple #[tv, tav] ∧ DevV wx NoM tv exF ∧ RdS wx NoM 3 EAk tav [⟨2, 9, 22⟩, ⟨3, 2, 0⟩], fun v wx => ∃ _ : Unit, DevV wx NoM v exF, fun v wx => ∃ _ : Unit, RdS wx NoM 3 EAk v [⟨2, 9, 22⟩, ⟨3, 2, 0⟩], fun v wx => ∃ b, (v = .pointer (some ⟨b, 0, none⟩) ∧ u8.heap.size ≤ b) ∧ wx.heap[b]? = some (.cells devZC 27 (0, 0)), fun v wx => ∃ (b : Nat) (c : Array Value), v = .pointer (some ⟨b, 0, none⟩) ∧ u8.heap.size ≤ b ∧ c.size = 7 ∧ wx.heap[b]? = some (.cells c 27 (0, 0)) ∧ DevV wx NoM (.agg c) exF])        (stab_cons (stab_const _) (stab_cons (stab_const _) (stab_cons (stab_const _) (stab_cons (stab_const _) (stab_cons (stab_const _) (stab_cons (fun _ _ _ k ⟨u, h⟩ => ⟨u, h.kept k.of_no (fun _ _ x => x)⟩) (stab_cons (stab_tup2 _ _) (stab_cons (stab_tup2 _ _) (stab_cons (fun _ _ _ k ⟨u, h⟩ => ⟨u, h.kept0 k⟩) (stab_cons (fun _ _ _ k ⟨u, h⟩ => ⟨u, h.kept k.of_no (fun _ _ x => x)⟩) (stab_cons (stab_blk (fun b v => v = .pointer (some ⟨b, 0, none⟩) ∧ u8.heap.size ≤ b) (fun b => b) (fun b => .cells devZC 27 (0, 0))) (stab_cons (fun _ _ _ k ⟨b, c, h1, h2, h3, h4, h5⟩ => ⟨b, c, h1, h2, h3, k.blk h4 (fun x => x), h5.kept0 k⟩) stab_nil))))))))))))
      have hist := init_stab (inits := []) (fun p h => by cases h)
      have HST := Lib.hid hst
      have HIST := Lib.hid hist
      clear hst hist
      rcases (show i = 0 ∨ i = 1 ∨ i = 2 ∨ i = 3 ∨ i = 4 ∨ i = 5 ∨ i = 6 ∨ i = 7 ∨ i = 8 ∨ i = 9 ∨ i = 10 ∨ i = 11 by omega) with rfl | rfl | rfl | rfl | rfl | rfl | rfl | rfl | rfl | rfl | rfl | rfl
      · refine asksS_intro ?_; intro o ho a wx hc hout hp hi R hR; cases ho
        have e8 : a.tmps[8]? = some (.pointer (some ⟨B8, 0, none⟩)) := hout 8 rfl
        refine gives_load_big bigDev (.tmp 8) rfl B8 0 (devC exC ta8 tc8 qa8 qc8 da8 dc8 la8 lc8) (by go_simp) (range_blk (hc.blk HD8.out (fun x => x))) rfl ?_
        exact hR _ _ hc rfl (fun _ _ _ _ _ u h => h) (fun _ _ h => h)
      · refine asksS_intro ?_; intro o ho a wx hc hout hp hi R hR; cases ho
        go_simp
        exact hR _ _ hc rfl (fun _ _ _ _ _ u h => h) (fun _ _ h => h)
      · refine asksS_intro ?_; intro o ho a wx hc hout hp hi R hR; cases ho
        go_simp
        refine (lput_ok 2 7 wx).mono ?_
        rintro e w2 ⟨rfl, q3⟩
        exact ⟨_, rfl, hR _ _ (hc.trans q3) rfl (fun j _ _ _ _ u h => HST.out j u _ _ q3 h) (fun j _ h => HIST.out j _ _ q3 h)⟩
      · refine asksS_intro ?_; intro o ho a wx hc hout hp hi R hR; cases ho
        go_simp
        refine (lput_ok 5 1 wx).mono ?_
        rintro e w2 ⟨rfl, q3⟩
        exact ⟨_, rfl, hR _ _ (hc.trans q3) rfl (fun j _ _ _ _ u h => HST.out j u _ _ q3 h) (fun j _ h => HIST.out j _ _ q3 h)⟩
      · refine asksS_intro ?_; intro o ho a wx hc hout hp hi R hR; cases ho
        go_simp
        refine (lput_ok 6 2 wx).mono ?_
        rintro e w2 ⟨rfl, q3⟩
        exact ⟨_, rfl, hR _ _ (hc.trans q3) rfl (fun j _ _ _ _ u h => HST.out j u _ _ q3 h) (fun j _ h => HIST.out j _ _ q3 h)⟩
      · refine asksS_intro ?_; intro o ho a wx hc hout hp hi R hR; cases ho
        have e51 : a.tmps[51]?.getD undef = .agg (wrC exOld) := hp 1 (by omega) rfl
        have e52 : a.tmps[52]?.getD undef = .agg (wrC (putW 2 7)) := hp 2 (by omega) rfl
        have e53 : a.tmps[53]?.getD undef = .agg (wrC (putW 5 1)) := hp 3 (by omega) rfl
        have e54 : a.tmps[54]?.getD undef = .agg (wrC (putW 6 2)) := hp 4 (by omega) rfl
        go_simp
        exact hR _ _ (hc.alloc _) ⟨(), rd_flat (f := wrL) (xs := exL2) (fun _ => rfl) wrL_len (blk_new _ _) (fun x => x) rfl (by unfold maxLen; omega)⟩ (fun j _ _ _ _ u h => HST.out j u _ _ ((Kept.refl _ _).alloc _) h) (fun j _ h => HIST.out j _ _ ((Kept.refl _ _).alloc _) h)
      · refine asksS_intro ?_; intro o ho a wx hc hout hp hi R hR; cases ho
        have e50 : a.tmps[50]?.getD undef = .agg (devC exC ta8 tc8 qa8 qc8 da8 dc8 la8 lc8) := hp 0 (by omega) rfl
        obtain ⟨_, q55⟩ : ∃ _ : Unit, RdS wx NoM 26 EWr (a.tmps[55]?.getD undef) exL2 := hp 5 (by omega) rfl
        go_simp
        refine (exrec2 _ _ wx ⟨_, _, _, _, _, _, _, _, rfl, HR8.out.kept hc.of_no⟩ q55).mono ?_
        rintro e w2 ⟨v, av, rfl, q1, q2, q3⟩
        exact ⟨_, rfl, hR _ _ (hc.trans q3) ⟨v, av, rfl, q1, q2⟩ (fun j _ _ _ _ u h => HST.out j u _ _ q3 h) (fun j _ h => HIST.out j _ _ q3 h)⟩
      · refine asksS_intro ?_; intro o ho a wx hc hout hp hi R hR; cases ho
        obtain ⟨tv, tav, e56, tv2, tv3⟩ : ∃ tv tav, (a.tmps[56]?.getD undef) = .tuple #[tv, tav] ∧ DevV wx NoM tv exF ∧ RdS wx NoM 3 EAk tav [⟨2, 9, 22⟩, ⟨3, 2, 0⟩] := hp 6 (by omega) rfl
        go_simp
        exact hR _ _ hc ⟨tv, tav, rfl, tv2, tv3⟩ (fun _ _ _ _ _ u h => h) (fun _ _ h => h)
      · refine asksS_intro ?_; intro o ho a wx hc hout hp hi R hR; cases ho
        obtain ⟨tv, tav, e49, tv2, tv3⟩ : ∃ tv tav, (a.tmps[49]?.getD undef) = .tuple #[tv, tav] ∧ DevV wx NoM tv exF ∧ RdS wx NoM 3 EAk tav [⟨2, 9, 22⟩, ⟨3, 2, 0⟩] := hp 7 (by omega) rfl
        go_simp
        exact hR _ _ hc ⟨(), tv2⟩ (fun _ _ _ _ _ u h => h) (fun _ _ h => h)
      · refine asksS_intro ?_; intro o ho a wx hc hout hp hi R hR; cases ho
        obtain ⟨tv, tav, e49, tv2, tv3⟩ : ∃ tv tav, (a.tmps[49]?.getD undef) = .tuple #[tv, tav] ∧ DevV wx NoM tv exF ∧ RdS wx NoM 3 EAk tav [⟨2, 9, 22⟩, ⟨3, 2, 0⟩] := hp 7 (by omega) rfl
        go_simp
        exact hR _ _ hc ⟨(), tv3⟩ (fun _ _ _ _ _ u h => h) (fun _ _ h => h)
      · refine asksS_intro ?_; intro o ho a wx hc hout hp hi R hR; cases ho
        refine gives_alloc_Z 27 rfl _ (devZ _) ?_
        exact hR _ _ (hc.alloc _) ⟨_, ⟨rfl, hc.size⟩, blk_new _ _⟩ (fun j _ _ _ _ u h => HST.out j u _ _ ((Kept.refl _ _).alloc _) h) (fun j _ h => HIST.out j _ _ ((Kept.refl _ _).alloc _) h)
      · refine asksS_intro ?_; intro o ho a wx hc hout hp hi R hR; cases ho
        obtain ⟨_, q57⟩ : ∃ _ : Unit, DevV wx NoM (a.tmps[57]?.getD undef) exF := hp 8 (by omega) rfl
        obtain ⟨b, e10, hb10⟩ : ∃ b, (a.tmps[10]?.getD undef = .pointer (some ⟨b, 0, none⟩) ∧ u8.heap.size ≤ b) ∧ wx.heap[b]? = some (.cells devZC 27 (0, 0)) := hp 10 (by omega) rfl
        obtain ⟨e10, hs8⟩ := e10
        obtain ⟨sta, stc, sqa, sqc, sda, sdc, sla, slc, e57, qr⟩ := q57
        refine gives_store_bigb (cs := devC exF sta stc sqa sqc sda sdc sla slc) bigDev (.tmp 10) (.tmp 57) rfl b (by go_simp) (by go_simp) hb10 rfl rfl (dev1 _ _ _ _ _ _ _ _ _) ?_
        refine hR _ _ (hc.putN hs8 _ _) ⟨b, _, e10, hs8, rfl, putB_blk _ _ _ _ (lt_of_block hb10), ⟨_, _, _, _, _, _, _, _, rfl, qr.putZ HNZ.out hb10 _⟩⟩ (fun j hj hne hcn hwf u h => ?_) (fun q hq h => ?_)
        · rcases (show j = 0 ∨ j = 1 ∨ j = 2 ∨ j = 3 ∨ j = 4 ∨ j = 5 ∨ j = 6 ∨ j = 7 ∨ j = 8 ∨ j = 9 ∨ j = 10 ∨ j = 11 by omega) with rfl | rfl | rfl | rfl | rfl | rfl | rfl | rfl | rfl | rfl | rfl | rfl <;> first | exact h | exact absurd hcn (by decide) | exact absurd rfl hne | (obtain ⟨u0, h2⟩ := h; exact ⟨u0, wrs_putZ h2 hb10 _⟩) | (obtain ⟨v0, av0, h1, h2, h3⟩ := h; exact ⟨v0, av0, h1, h2.putZ HNZ.out hb10 _, acks_putZ h3 hb10 _⟩) | (obtain ⟨u0, h2⟩ := h; exact ⟨u0, h2.putZ HNZ.out hb10 _⟩) | (obtain ⟨u0, h2⟩ := h; exact ⟨u0, acks_putZ h2 hb10 _⟩) | exact absurd (hwf.symm.trans (by kernel_rfl)) Bool.false_ne_true
        · trivial
    · intro vs w' hc hp
      obtain ⟨_, q58⟩ : ∃ _ : Unit, RdS w' NoM 3 EAk (vs 9) [⟨2, 9, 22⟩, ⟨3, 2, 0⟩] := hp 9 (by omega) rfl
      obtain ⟨b, c, e8, hb8, hc8, hbb8, q8⟩ : ∃ (b : Nat) (c : Array Value), (vs 10) = .pointer (some ⟨b, 0, none⟩) ∧ u8.heap.size ≤ b ∧ c.size = 7 ∧ w'.heap[b]? = some (.cells c 27 (0, 0)) ∧ DevV w' NoM (.agg c) exF := hp 11 (by omega) rfl 10 (by omega) rfl
      simp only [List.take_succ_cons, List.take_zero, List.drop_succ_cons, List.drop_zero, putAll, Act.put, List.setIfInBounds_toArray, List.set_cons_zero, List.set_cons_succ, Nat.reduceAdd]
      rw [e8]
      obtain ⟨ta10, tc10, qa10, qc10, da10, dc10, la10, lc10, en, qn⟩ := q8
      obtain rfl := Value.agg.inj en
      change wpList _ _ _ _ _ _
      have K10 := Lib.hid (KB8.out.trans hc)
      have HC9 := Lib.hid hc
      have HD10 := Lib.hid hbb8
      have HR10 := Lib.hid qn
      obtain ⟨a11, c11, ea11, _, _⟩ := q58.shape
      have eb11 : vs 9 = .slice a11 2 c11 := ea11
      have HA11 := Lib.hid q58
      clear hc hp hbb8 hb8 qn q58 en hc8 e8
      generalize w' = w10 at *
      rw [eb11] at HA11 ⊢
      clear ea11 eb11
      generalize b = B10 at *
      have L10 := HC9
      clear HNZ HC9
      go_wp2_with (first       | (refine wpList_load_big bigDev rfl _ rfl B10 0 (devC exF ta10 tc10 qa10 qc10 da10 dc10 la10 lc10) rfl (range_blk HD10.out) rfl ?_))
      refine (exdo3 _ _ _ ⟨_, _, _, _, _, _, _, _, rfl, HR10.out.kept ((Kept.refl NoM _).alloc _)⟩ (natRd (l := [0, 0]) (blk_new _ _) rfl (by decide))).mono ?_
      rintro e w12 ⟨v7, av7, rfl, dd7, aa7, k7⟩
      obtain ⟨ta12, tc12, qa12, qc12, da12, dc12, la12, lc12, rfl, r7⟩ := dd7
      obtain ⟨a13, c13, ea7, _, _⟩ := aa7.shape
      have ea8 : av7 = .slice a13 2 c13 := ea7
      subst ea8
      have HD12 := Lib.hid (blk_new w12 (.cells (devC exG ta12 tc12 qa12 qc12 da12 dc12 la12 lc12) 27))
      have HR12 := Lib.hid (r7.kept ((Kept.refl NoM w12).alloc (.cells (devC exG ta12 tc12 qa12 qc12 da12 dc12 la12 lc12) 27)))
      have HA13 := Lib.hid (aa7.kept (((Kept.refl NoM w12).alloc (.cells (devC exG ta12 tc12 qa12 qc12 da12 dc12 la12 lc12) 27)).of_no (M := NoM)) (fun _ _ x => x))
      have L12 := Lib.hid ((((Kept.refl NoM w10).alloc (.cells #[.int .i64 0, .int .i64 0] 3)).trans k7).alloc (.cells (devC exG ta12 tc12 qa12 qc12 da12 dc12 la12 lc12) 27))
      clear r7 aa7 k7 ea7
      have K610 := Lib.hid ((L7.out.trans L8.out).trans L10.out)
      have K13 := Lib.hid (((K610.out.trans L12.out).alloc (.cells #[.int .i64 2, .int .i64 9, .int .i64 22] 60)).alloc (.cells #[.int .i64 3, .int .i64 6, .int .i64 12] 60))
      have K1213 := Lib.hid (((Kept.refl NoM (w12.alloc (.cells (devC exG ta12 tc12 qa12 qc12 da12 dc12 la12 lc12) 27))).alloc (.cells #[.int .i64 2, .int .i64 9, .int .i64 22] 60)).alloc (.cells #[.int .i64 3, .int .i64 6, .int .i64 12] 60))
      have HD4x := Lib.hid (K13.out.blk HD4.out (fun x => x))
      have HR4x := Lib.hid (HR4.out.kept K13.out)
      have HK15 := Lib.hid (blk_old (blk_new' (w12.alloc (.cells (devC exG ta12 tc12 qa12 qc12 da12 dc12 la12 lc12) 27)) (.cells #[.int .i64 2, .int .i64 9, .int .i64 22] 60) (w12.heap.size + 1) (by simp)) (.cells #[.int .i64 3, .int .i64 6, .int .i64 12] 60))
      have HK16 := Lib.hid (blk_new' ((w12.alloc (.cells (devC exG ta12 tc12 qa12 qc12 da12 dc12 la12 lc12) 27)).alloc (.cells #[.int .i64 2, .int .i64 9, .int .i64 22] 60)) (.cells #[.int .i64 3, .int .i64 6, .int .i64 12] 60) (w12.heap.size + 1 + 1) (by simp))
      go_wp2_with (first | (refine wpList_alloc_Z rfl 27 rfl _ (devZ _) ?_) | (refine wpList_alloc_Z rfl 60 rfl _ (akZ _) ?_)       | (refine wpList_store_bign (cs := devC exG ta12 tc12 qa12 qc12 da12 dc12 la12 lc12) bigDev rfl _ _ rfl _ rfl rfl rfl rfl rfl (dev1 _ _ _ _ _ _ _ _ _) ?_)       | (refine wpList_store_bign (cs := #[.int .i64 2, .int .i64 9, .int .i64 22]) bigAk rfl _ _ rfl _ rfl rfl rfl rfl rfl (eAk_one _ ⟨2, 9, 22⟩ rfl) ?_)       | (refine wpList_store_bign (cs := #[.int .i64 3, .int .i64 6, .int .i64 12]) bigAk rfl _ _ rfl _ rfl rfl rfl rfl rfl (eAk_one _ ⟨3, 6, 12⟩ rfl) ?_)       | (refine wpList_load_big bigDev rfl _ rfl B4 0 (devC exA ta4 tc4 qa4 qc4 da4 dc4 la4 lc4) rfl (range_blk HD4x.out) rfl ?_))
      generalize ((w12.alloc (.cells (devC exG ta12 tc12 qa12 qc12 da12 dc12 la12 lc12) 27)).alloc (.cells #[.int .i64 2, .int .i64 9, .int .i64 22] 60)).alloc (.cells #[.int .i64 3, .int .i64 6, .int .i64 12] 60) = u13 at *
      generalize (w12.alloc (.cells (devC exG ta12 tc12 qa12 qc12 da12 dc12 la12 lc12) 27)) = u12 at *
      generalize w12.heap.size = B12 at *
      refine (exreadyA _ _ _ _ _ _ _ _ _ HR4x.out).mono ?_
      rintro e w14 ⟨a14, c14, rfl, r14, k14⟩
      go_wp2_with fail
      refine (sameints_ok _ _ [0, 1] NoM NoM _ (r14.kept ((Kept.refl NoM w14).alloc _) (fun _ _ x => x)) (intRd (l := [0, 1]) (blk_new _ _) rfl (by decide)) (by decide)).mono ?_
      rintro e u15 ⟨rfl, n15, hw15⟩
      have K15 : Hid (Kept NoM u13 u15) := Lib.hid (by rw [hw15]; exact (k14.alloc _).drewN n15)
      clear r14 k14 hw15
      have K715 := Lib.hid ((((L8.out.trans L10.out).trans L12.out).trans K1213.out).trans K15.out)
      have HD6x := Lib.hid (K715.out.blk HD6.out (fun x => x))
      have HR6x := Lib.hid (HR6.out.kept K715.out)
      go_wp2_with (refine wpList_load_bigG bigDev (by rfl) _ rfl B6 0 (devC exB ta6 tc6 qa6 qc6 da6 dc6 la6 lc6) rfl (range_blk HD6x.out) rfl ?_)
      refine (exreadyB _ _ _ _ _ _ _ _ _ HR6x.out).mono ?_
      rintro e w16 ⟨a16, c16, rfl, r16, k16⟩
      go_wp2_with fail
      refine (sameints_ok _ _ [0] NoM NoM _ (r16.kept ((Kept.refl NoM w16).alloc _) (fun _ _ x => x)) (intRd (l := [0]) (blk_new _ _) rfl (by decide)) (by decide)).mono ?_
      rintro e u17 ⟨rfl, n17, hw17⟩
      have K17 : Hid (Kept NoM u15 u17) := Lib.hid (by rw [hw17]; exact (k16.alloc _).drewN n17)
      clear r16 k16 hw17
      go_wp2_with fail
      have KU := Lib.hid (K15.out.trans K17.out)
      have K12u := Lib.hid (K1213.out.trans KU.out)
      have K10u := Lib.hid (L12.out.trans K12u.out)
      have K8u := Lib.hid (L10.out.trans K10u.out)
      have K7u := Lib.hid (L8.out.trans K8u.out)
      have K6u := Lib.hid (L7.out.trans K7u.out)
      have H7 := Lib.hid (HA7.out.kept K7u.out.of_no (fun _ _ x => x))
      have H9 := Lib.hid (HA9.out.kept K8u.out.of_no (fun _ _ x => x))
      have H11 := Lib.hid (HA11.out.kept K10u.out.of_no (fun _ _ x => x))
      have H13 := Lib.hid (HA13.out.kept K12u.out.of_no (fun _ _ x => x))
      have X15 := Lib.hid (KU.out.blk HK15.out (fun x => x))
      have X16 := Lib.hid (KU.out.blk HK16.out (fun x => x))
      have X8 := Lib.hid (K8u.out.blk HD8.out (fun x => x))
      have X12 := Lib.hid (K12u.out.blk HD12.out (fun x => x))
      have X3 := Lib.hid (K6u.out.blk HX6.out (fun x => x))
      have RR8 := Lib.hid (HR8.out.kept K8u.out)
      have RR12 := Lib.hid (HR12.out.kept K12u.out)
      have KW := Lib.hid (K6.out.trans K6u.out)
      clear KU K12u K10u K8u K7u K6u HA7 HA9 HA11 HA13 HK15 HK16 HD8 HD12 HX6 HR8 HR12 K6 K15 K17 K13 K610 K1213 K715 HD6x HR6x HD4x HR4x HD4 HR4 HD6 HR6 HD10 HR10 L7 L8 L10 L12 KB8
      refine wp_region_parH 32 [] [] [] [] [] (fun wx => Kept NoM u17 wx)
            [fun v _ => v = .slice a7 2 c7, fun v _ => v = .func (.func 39) #[] #[], fun v _ => v = .agg #[.int .i64 3, .int .i64 2, .int .i64 0], fun v _ => v = .func (.func 39) #[] #[], fun v _ => v = .agg #[.int .i64 3, .int .i64 1, .int .i64 0], fun v wx => ∃ _ : Unit, RdS wx NoM 3 EAk v ([⟨3, 2, 0⟩, ⟨3, 1, 0⟩] : List Ak), fun v _ => v = .bool true, fun v _ => v = .bool true, fun v _ => v = .slice a9 2 c9, fun v _ => v = .func (.func 39) #[] #[], fun v _ => v = .agg #[.int .i64 3, .int .i64 3, .int .i64 0], fun v _ => v = .func (.func 39) #[] #[], fun v _ => v = .agg #[.int .i64 3, .int .i64 4, .int .i64 0], fun v wx => ∃ _ : Unit, RdS wx NoM 3 EAk v ([⟨3, 3, 0⟩, ⟨3, 4, 0⟩] : List Ak), fun v _ => v = .bool true, fun v _ => v = .bool true, fun v _ => v = .bool true, fun v _ => v = .slice a11 2 c11, fun v _ => v = .agg #[.int .i64 2, .int .i64 9, .int .i64 22], fun v _ => v = .func (.func 39) #[] #[], fun v _ => v = .agg #[.int .i64 3, .int .i64 2, .int .i64 0], fun v wx => ∃ _ : Unit, RdS wx NoM 3 EAk v ([⟨2, 9, 22⟩, ⟨3, 2, 0⟩] : List Ak), fun v _ => v = .bool true, fun v _ => v = .bool true, fun v _ => v = .bool true, fun v _ => v = .slice a13 2 c13, fun v _ => v = .func (.func 39) #[] #[], fun v _ => v = .agg #[.int .i64 3, .int .i64 5, .int .i64 0], fun v _ => v = .agg #[.int .i64 3, .int .i64 6, .int .i64 12], fun v wx => ∃ _ : Unit, RdS wx NoM 3 EAk v ([⟨3, 5, 0⟩, ⟨3, 6, 12⟩] : List Ak), fun v _ => v = .bool true, fun v _ => v = .bool true] (by kernel_rfl) (by kernel_rfl) (by kernel_rfl) (Kept.refl NoM u17).drew (inits_nil) ?_ ?_
      · intro i hi9
        have hst := stab_all (posts := [fun v _ => v = .slice a7 2 c7, fun v _ => v = .func (.func 39) #[] #[], fun v _ => v = .agg #[.int .i64 3, .int .i64 2, .int .i64 0], fun v _ => v = .func (.func 39) #[] #[], fun v _ => v = .agg #[.int .i64 3, .int .i64 1, .int .i64 0], fun v wx => ∃ _ : Unit, RdS wx NoM 3 EAk v ([⟨3, 2, 0⟩, ⟨3, 1, 0⟩] : List Ak), fun v _ => v = .bool true, fun v _ => v = .bool true, fun v _ => v = .slice a9 2 c9, fun v _ => v = .func (.func 39) #[] #[], fun v _ => v = .agg #[.int .i64 3, .int .i64 3, .int .i64 0], fun v _ => v = .func (.func 39) #[] #[], fun v _ => v = .agg #[.int .i64 3, .int .i64 4, .int .i64 0], fun v wx => ∃ _ : Unit, RdS wx NoM 3 EAk v ([⟨3, 3, 0⟩, ⟨3, 4, 0⟩] : List Ak), fun v _ => v = .bool true, fun v _ => v = .bool true, fun v _ => v = .bool true, fun v _ => v = .slice a11 2 c11, fun v _ => v = .agg #[.int .i64 2, .int .i64 9, .int .i64 22], fun v _ => v = .func (.func 39) #[] #[], fun v _ => v = .agg #[.int .i64 3, .int .i64 2, .int .i64 0], fun v wx => ∃ _ : Unit, RdS wx NoM 3 EAk v ([⟨2, 9, 22⟩, ⟨3, 2, 0⟩] : List Ak), fun v _ => v = .bool true, fun v _ => v = .bool true, fun v _ => v = .bool true, fun v _ => v = .slice a13 2 c13, fun v _ => v = .func (.func 39) #[] #[], fun v _ => v = .agg #[.int .i64 3, .int .i64 5, .int .i64 0], fun v _ => v = .agg #[.int .i64 3, .int .i64 6, .int .i64 12], fun v wx => ∃ _ : Unit, RdS wx NoM 3 EAk v ([⟨3, 5, 0⟩, ⟨3, 6, 12⟩] : List Ak), fun v _ => v = .bool true, fun v _ => v = .bool true])        (stab_cons (stab_const _) (stab_cons (stab_const _) (stab_cons (stab_const _) (stab_cons (stab_const _) (stab_cons (stab_const _) (stab_cons (fun _ _ _ k ⟨u, h⟩ => ⟨u, h.kept k.of_no (fun _ _ x => x)⟩) (stab_cons (stab_const _) (stab_cons (stab_const _) (stab_cons (stab_const _) (stab_cons (stab_const _) (stab_cons (stab_const _) (stab_cons (stab_const _) (stab_cons (stab_const _) (stab_cons (fun _ _ _ k ⟨u, h⟩ => ⟨u, h.kept k.of_no (fun _ _ x => x)⟩) (stab_cons (stab_const _) (stab_cons (stab_const _) (stab_cons (stab_const _) (stab_cons (stab_const _) (stab_cons (stab_const _) (stab_cons (stab_const _) (stab_cons (stab_const _) (stab_cons (fun _ _ _ k ⟨u, h⟩ => ⟨u, h.kept k.of_no (fun _ _ x => x)⟩) (stab_cons (stab_const _) (stab_cons (stab_const _) (stab_cons (stab_const _) (stab_cons (stab_const _) (stab_cons (stab_const _) (stab_cons (stab_const _) (stab_cons (stab_const _) (stab_cons (fun _ _ _ k ⟨u, h⟩ => ⟨u, h.kept k.of_no (fun _ _ x => x)⟩) (stab_cons (stab_const _) (stab_cons (stab_const _) stab_nil))))))))))))))))))))))))))))))))
        have hist := init_stab (inits := []) (fun p h => by cases h)
        have HST := Lib.hid hst
        have HIST := Lib.hid hist
        clear hst hist
        rcases (show i = 0 ∨ i = 1 ∨ i = 2 ∨ i = 3 ∨ i = 4 ∨ i = 5 ∨ i = 6 ∨ i = 7 ∨ i = 8 ∨ i = 9 ∨ i = 10 ∨ i = 11 ∨ i = 12 ∨ i = 13 ∨ i = 14 ∨ i = 15 ∨ i = 16 ∨ i = 17 ∨ i = 18 ∨ i = 19 ∨ i = 20 ∨ i = 21 ∨ i = 22 ∨ i = 23 ∨ i = 24 ∨ i = 25 ∨ i = 26 ∨ i = 27 ∨ i = 28 ∨ i = 29 ∨ i = 30 ∨ i = 31 by omega) with rfl | rfl | rfl | rfl | rfl | rfl | rfl | rfl | rfl | rfl | rfl | rfl | rfl | rfl | rfl | rfl | rfl | rfl | rfl | rfl | rfl | rfl | rfl | rfl | rfl | rfl | rfl | rfl | rfl | rfl | rfl | rfl
        · refine asksH_intro ?_; intro o ho a wx hc hout hp hi R hR; cases ho
          refine .inl ⟨wanted_none rfl, ?_⟩
          have e7 : a.tmps[7]? = some (.slice a7 2 c7) := hout 7 rfl
          go_simp
          exact hR _ _ hc rfl (fun _ _ _ _ _ u h => h) (fun _ _ h => h)
        · refine asksH_intro ?_; intro o ho a wx hc hout hp hi R hR; cases ho
          refine .inl ⟨wanted_none rfl, ?_⟩
          have e14 : a.tmps[14]? = some (.func (.func 39) #[] #[]) := hout 14 rfl
          go_simp
          exact hR _ _ hc rfl (fun _ _ _ _ _ u h => h) (fun _ _ h => h)
        · refine asksH_intro ?_; intro o ho a wx hc hout hp hi R hR; cases ho
          refine .inl ⟨wanted_none rfl, ?_⟩
          have e83 : a.tmps[83]?.getD undef = .func (.func 39) #[] #[] := hp 1 (by omega) rfl
          go_simp
          refine (lack_ok 2 wx).mono ?_
          rintro e w2 ⟨rfl, q3⟩
          exact ⟨_, rfl, hR _ _ (hc.trans q3) rfl (fun j _ _ _ _ u h => HST.out j u _ _ q3 h) (fun j _ h => HIST.out j _ _ q3 h)⟩
        · refine asksH_intro ?_; intro o ho a wx hc hout hp hi R hR; cases ho
          refine .inl ⟨wanted_none rfl, ?_⟩
          have e14 : a.tmps[14]? = some (.func (.func 39) #[] #[]) := hout 14 rfl
          go_simp
          exact hR _ _ hc rfl (fun _ _ _ _ _ u h => h) (fun _ _ h => h)
        · refine asksH_intro ?_; intro o ho a wx hc hout hp hi R hR; cases ho
          refine .inl ⟨wanted_none rfl, ?_⟩
          have e85 : a.tmps[85]?.getD undef = .func (.func 39) #[] #[] := hp 3 (by omega) rfl
          go_simp
          refine (lack_ok 1 wx).mono ?_
          rintro e w2 ⟨rfl, q3⟩
          exact ⟨_, rfl, hR _ _ (hc.trans q3) rfl (fun j _ _ _ _ u h => HST.out j u _ _ q3 h) (fun j _ h => HIST.out j _ _ q3 h)⟩
        · refine asksH_intro ?_; intro o ho a wx hc hout hp hi R hR; cases ho
          refine .inl ⟨wanted_none rfl, ?_⟩
          have e84 : a.tmps[84]?.getD undef = .agg #[.int .i64 3, .int .i64 2, .int .i64 0] := hp 2 (by omega) rfl
          have e86 : a.tmps[86]?.getD undef = .agg #[.int .i64 3, .int .i64 1, .int .i64 0] := hp 4 (by omega) rfl
          go_simp
          exact hR _ _ (hc.alloc _) ⟨(), rd_flat (f := akL) (xs := [⟨3, 2, 0⟩, ⟨3, 1, 0⟩]) (fun _ => rfl) (fun _ => rfl) (blk_new _ _) (fun x => x) rfl (by unfold maxLen; omega)⟩ (fun j _ _ _ _ u h => HST.out j u _ _ ((Kept.refl _ _).alloc _) h) (fun j _ h => HIST.out j _ _ ((Kept.refl _ _).alloc _) h)
        · refine asksH_intro ?_; intro o ho a wx hc hout hp hi R hR; cases ho
          refine .inl ⟨wanted_none rfl, ?_⟩
          have e82 : a.tmps[82]?.getD undef = .slice a7 2 c7 := hp 0 (by omega) rfl
          obtain ⟨_, q87⟩ : ∃ _ : Unit, RdS wx NoM 3 EAk (a.tmps[87]?.getD undef) ([⟨3, 2, 0⟩, ⟨3, 1, 0⟩] : List Ak) := hp 5 (by omega) rfl
          go_simp
          refine (sameacks_ok _ _ [⟨3, 2, 0⟩, ⟨3, 1, 0⟩] NoM NoM wx (H7.out.kept hc.of_no (fun _ _ x => x)) q87 (by decide)).mono ?_
          rintro e w2 ⟨rfl, n9, rfl⟩
          exact ⟨_, rfl, hR _ _ (hc.drewN n9) rfl (fun j _ _ _ _ u h => HST.out j u _ _ ((Kept.refl NoM wx).drewN n9) h) (fun j _ h => HIST.out j _ _ ((Kept.refl NoM wx).drewN n9) h)⟩
        · refine asksH_intro ?_; intro o ho a wx hc hout hp hi R hR; cases ho
          refine .inl ⟨wanted_none rfl, ?_⟩
          have e88 : a.tmps[88]?.getD undef = .bool true := hp 6 (by omega) rfl
          go_simp
          exact hR _ _ hc rfl (fun _ _ _ _ _ u h => h) (fun _ _ h => h)
        · refine asksH_intro ?_; intro o ho a wx hc hout hp hi R hR; cases ho
          refine .inl ⟨wanted_some rfl rfl (hp 7 (by omega) rfl), ?_⟩
          have e9 : a.tmps[9]? = some (.slice a9 2 c9) := hout 9 rfl
          go_simp
          exact hR _ _ hc rfl (fun _ _ _ _ _ u h => h) (fun _ _ h => h)
        · refine asksH_intro ?_; intro o ho a wx hc hout hp hi R hR; cases ho
          refine .inl ⟨wanted_some rfl rfl (hp 7 (by omega) rfl), ?_⟩
          have e14 : a.tmps[14]? = some (.func (.func 39) #[] #[]) := hout 14 rfl
          go_simp
          exact hR _ _ hc rfl (fun _ _ _ _ _ u h => h) (fun _ _ h => h)
        · refine asksH_intro ?_; intro o ho a wx hc hout hp hi R hR; cases ho
          refine .inl ⟨wanted_some rfl rfl (hp 7 (by omega) rfl), ?_⟩
          have e91 : a.tmps[91]?.getD undef = .func (.func 39) #[] #[] := hp 9 (by omega) rfl
          go_simp
          refine (lack_ok 3 wx).mono ?_
          rintro e w2 ⟨rfl, q3⟩
          exact ⟨_, rfl, hR _ _ (hc.trans q3) rfl (fun j _ _ _ _ u h => HST.out j u _ _ q3 h) (fun j _ h => HIST.out j _ _ q3 h)⟩
        · refine asksH_intro ?_; intro o ho a wx hc hout hp hi R hR; cases ho
          refine .inl ⟨wanted_some rfl rfl (hp 7 (by omega) rfl), ?_⟩
          have e14 : a.tmps[14]? = some (.func (.func 39) #[] #[]) := hout 14 rfl
          go_simp
          exact hR _ _ hc rfl (fun _ _ _ _ _ u h => h) (fun _ _ h => h)
        · refine asksH_intro ?_; intro o ho a wx hc hout hp hi R hR; cases ho
          refine .inl ⟨wanted_some rfl rfl (hp 7 (by omega) rfl), ?_⟩
          have e93 : a.tmps[93]?.getD undef = .func (.func 39) #[] #[] := hp 11 (by omega) rfl
          go_simp
          refine (lack_ok 4 wx).mono ?_
          rintro e w2 ⟨rfl, q3⟩
          exact ⟨_, rfl, hR _ _ (hc.trans q3) rfl (fun j _ _ _ _ u h => HST.out j u _ _ q3 h) (fun j _ h => HIST.out j _ _ q3 h)⟩
        · refine asksH_intro ?_; intro o ho a wx hc hout hp hi R hR; cases ho
          refine .inl ⟨wanted_some rfl rfl (hp 7 (by omega) rfl), ?_⟩
          have e92 : a.tmps[92]?.getD undef = .agg #[.int .i64 3, .int .i64 3, .int .i64 0] := hp 10 (by omega) rfl
          have e94 : a.tmps[94]?.getD undef = .agg #[.int .i64 3, .int .i64 4, .int .i64 0] := hp 12 (by omega) rfl
          go_simp
          exact hR _ _ (hc.alloc _) ⟨(), rd_flat (f := akL) (xs := [⟨3, 3, 0⟩, ⟨3, 4, 0⟩]) (fun _ => rfl) (fun _ => rfl) (blk_new _ _) (fun x => x) rfl (by unfold maxLen; omega)⟩ (fun j _ _ _ _ u h => HST.out j u _ _ ((Kept.refl _ _).alloc _) h) (fun j _ h => HIST.out j _ _ ((Kept.refl _ _).alloc _) h)
        · refine asksH_intro ?_; intro o ho a wx hc hout hp hi R hR; cases ho
          refine .inl ⟨wanted_some rfl rfl (hp 7 (by omega) rfl), ?_⟩
          have e90 : a.tmps[90]?.getD undef = .slice a9 2 c9 := hp 8 (by omega) rfl
          obtain ⟨_, q95⟩ : ∃ _ : Unit, RdS wx NoM 3 EAk (a.tmps[95]?.getD undef) ([⟨3, 3, 0⟩, ⟨3, 4, 0⟩] : List Ak) := hp 13 (by omega) rfl
          go_simp
          refine (sameacks_ok _ _ [⟨3, 3, 0⟩, ⟨3, 4, 0⟩] NoM NoM wx (H9.out.kept hc.of_no (fun _ _ x => x)) q95 (by decide)).mono ?_
          rintro e w2 ⟨rfl, n9, rfl⟩
          exact ⟨_, rfl, hR _ _ (hc.drewN n9) rfl (fun j _ _ _ _ u h => HST.out j u _ _ ((Kept.refl NoM wx).drewN n9) h) (fun j _ h => HIST.out j _ _ ((Kept.refl NoM wx).drewN n9) h)⟩
        · refine asksH_intro ?_; intro o ho a wx hc hout hp hi R hR; cases ho
          refine .inl ⟨wanted_none rfl, ?_⟩
          have e89 : a.tmps[89]?.getD undef = .bool true := hp 7 (by omega) rfl
          have e96 : a.tmps[96]?.getD undef = .bool true := hp 14 (by omega) rfl
          go_simp
          exact hR _ _ hc rfl (fun _ _ _ _ _ u h => h) (fun _ _ h => h)
        · refine asksH_intro ?_; intro o ho a wx hc hout hp hi R hR; cases ho
          refine .inl ⟨wanted_none rfl, ?_⟩
          have e97 : a.tmps[97]?.getD undef = .bool true := hp 15 (by omega) rfl
          go_simp
          exact hR _ _ hc rfl (fun _ _ _ _ _ u h => h) (fun _ _ h => h)
        · refine asksH_intro ?_; intro o ho a wx hc hout hp hi R hR; cases ho
          refine .inl ⟨wanted_some rfl rfl (hp 16 (by omega) rfl), ?_⟩
          have e11 : a.tmps[11]? = some (.slice a11 2 c11) := hout 11 rfl
          go_simp
          exact hR _ _ hc rfl (fun _ _ _ _ _ u h => h) (fun _ _ h => h)
        · refine asksH_intro ?_; intro o ho a wx hc hout hp hi R hR; cases ho
          refine .inl ⟨wanted_some rfl rfl (hp 16 (by omega) rfl), ?_⟩
          have e15 : a.tmps[15]? = some (.pointer (some ⟨B12 + 1, 0, none⟩)) := hout 15 rfl
          refine gives_load_big bigAk (.tmp 15) rfl (B12 + 1) 0 (#[.int .i64 2, .int .i64 9, .int .i64 22]) (by go_simp) (range_blk (hc.blk X15.out (fun x => x))) rfl ?_
          exact hR _ _ hc rfl (fun _ _ _ _ _ u h => h) (fun _ _ h => h)
        · refine asksH_intro ?_; intro o ho a wx hc hout hp hi R hR; cases ho
          refine .inl ⟨wanted_some rfl rfl (hp 16 (by omega) rfl), ?_⟩
          have e14 : a.tmps[14]? = some (.func (.func 39) #[] #[]) := hout 14 rfl
          go_simp
          exact hR _ _ hc rfl (fun _ _ _ _ _ u h => h) (fun _ _ h => h)
        · refine asksH_intro ?_; intro o ho a wx hc hout hp hi R hR; cases ho
          refine .inl ⟨wanted_some rfl rfl (hp 16 (by omega) rfl), ?_⟩
          have e101 : a.tmps[101]?.getD undef = .func (.func 39) #[] #[] := hp 19 (by omega) rfl
          go_simp
          refine (lack_ok 2 wx).mono ?_
          rintro e w2 ⟨rfl, q3⟩
          exact ⟨_, rfl, hR _ _ (hc.trans q3) rfl (fun j _ _ _ _ u h => HST.out j u _ _ q3 h) (fun j _ h => HIST.out j _ _ q3 h)⟩
        · refine asksH_intro ?_; intro o ho a wx hc hout hp hi R hR; cases ho
          refine .inl ⟨wanted_some rfl rfl (hp 16 (by omega) rfl), ?_⟩
          have e100 : a.tmps[100]?.getD undef = .agg #[.int .i64 2, .int .i64 9, .int .i64 22] := hp 18 (by omega) rfl
          have e102 : a.tmps[102]?.getD undef = .agg #[.int .i64 3, .int .i64 2, .int .i64 0] := hp 20 (by omega) rfl
          go_simp
          exact hR _ _ (hc.alloc _) ⟨(), rd_flat (f := akL) (xs := [⟨2, 9, 22⟩, ⟨3, 2, 0⟩]) (fun _ => rfl) (fun _ => rfl) (blk_new _ _) (fun x => x) rfl (by unfold maxLen; omega)⟩ (fun j _ _ _ _ u h => HST.out j u _ _ ((Kept.refl _ _).alloc _) h) (fun j _ h => HIST.out j _ _ ((Kept.refl _ _).alloc _) h)
        · refine asksH_intro ?_; intro o ho a wx hc hout hp hi R hR; cases ho
          refine .inl ⟨wanted_some rfl rfl (hp 16 (by omega) rfl), ?_⟩
          have e99 : a.tmps[99]?.getD undef = .slice a11 2 c11 := hp 17 (by omega) rfl
          obtain ⟨_, q103⟩ : ∃ _ : Unit, RdS wx NoM 3 EAk (a.tmps[103]?.getD undef) ([⟨2, 9, 22⟩, ⟨3, 2, 0⟩] : List Ak) := hp 21 (by omega) rfl
          go_simp
          refine (sameacks_ok _ _ [⟨2, 9, 22⟩, ⟨3, 2, 0⟩] NoM NoM wx (H11.out.kept hc.of_no (fun _ _ x => x)) q103 (by decide)).mono ?_
          rintro e w2 ⟨rfl, n9, rfl⟩
          exact ⟨_, rfl, hR _ _ (hc.drewN n9) rfl (fun j _ _ _ _ u h => HST.out j u _ _ ((Kept.refl NoM wx).drewN n9) h) (fun j _ h => HIST.out j _ _ ((Kept.refl NoM wx).drewN n9) h)⟩
        · refine asksH_intro ?_; intro o ho a wx hc hout hp hi R hR; cases ho
          refine .inl ⟨wanted_none rfl, ?_⟩
          have e98 : a.tmps[98]?.getD undef = .bool true := hp 16 (by omega) rfl
          have e104 : a.tmps[104]?.getD undef = .bool true := hp 22 (by omega) rfl
          go_simp
          exact hR _ _ hc rfl (fun _ _ _ _ _ u h => h) (fun _ _ h => h)
        · refine asksH_intro ?_; intro o ho a wx hc hout hp hi R hR; cases ho
          refine .inl ⟨wanted_none rfl, ?_⟩
          have e105 : a.tmps[105]?.getD undef = .bool true := hp 23 (by omega) rfl
          go_simp
          exact hR _ _ hc rfl (fun _ _ _ _ _ u h => h) (fun _ _ h => h)
        · refine asksH_intro ?_; intro o ho a wx hc hout hp hi R hR; cases ho
          refine .inl ⟨wanted_some rfl rfl (hp 24 (by omega) rfl), ?_⟩
          have e13 : a.tmps[13]? = some (.slice a13 2 c13) := hout 13 rfl
          go_simp
          exact hR _ _ hc rfl (fun _ _ _ _ _ u h => h) (fun _ _ h => h)
        · refine asksH_intro ?_; intro o ho a wx hc hout hp hi R hR; cases ho
          refine .inl ⟨wanted_some rfl rfl (hp 24 (by omega) rfl), ?_⟩
          have e14 : a.tmps[14]? = some (.func (.func 39) #[] #[]) := hout 14 rfl
          go_simp
          exact hR _ _ hc rfl (fun _ _ _ _ _ u h => h) (fun _ _ h => h)
        · refine asksH_intro ?_; intro o ho a wx hc hout hp hi R hR; cases ho
          refine .inl ⟨wanted_some rfl rfl (hp 24 (by omega) rfl), ?_⟩
          have e108 : a.tmps[108]?.getD undef = .func (.func 39) #[] #[] := hp 26 (by omega) rfl
          go_simp
          refine (lack_ok 5 wx).mono ?_
          rintro e w2 ⟨rfl, q3⟩
          exact ⟨_, rfl, hR _ _ (hc.trans q3) rfl (fun j _ _ _ _ u h => HST.out j u _ _ q3 h) (fun j _ h => HIST.out j _ _ q3 h)⟩
        · refine asksH_intro ?_; intro o ho a wx hc hout hp hi R hR; cases ho
          refine .inl ⟨wanted_some rfl rfl (hp 24 (by omega) rfl), ?_⟩
          have e16 : a.tmps[16]? = some (.pointer (some ⟨B12 + 1 + 1, 0, none⟩)) := hout 16 rfl
          refine gives_load_big bigAk (.tmp 16) rfl (B12 + 1 + 1) 0 (#[.int .i64 3, .int .i64 6, .int .i64 12]) (by go_simp) (range_blk (hc.blk X16.out (fun x => x))) rfl ?_
          exact hR _ _ hc rfl (fun _ _ _ _ _ u h => h) (fun _ _ h => h)
        · refine asksH_intro ?_; intro o ho a wx hc hout hp hi R hR; cases ho
          refine .inl ⟨wanted_some rfl rfl (hp 24 (by omega) rfl), ?_⟩
          have e109 : a.tmps[109]?.getD undef = .agg #[.int .i64 3, .int .i64 5, .int .i64 0] := hp 27 (by omega) rfl
          have e110 : a.tmps[110]?.getD undef = .agg #[.int .i64 3, .int .i64 6, .int .i64 12] := hp 28 (by omega) rfl
          go_simp
          exact hR _ _ (hc.alloc _) ⟨(), rd_flat (f := akL) (xs := [⟨3, 5, 0⟩, ⟨3, 6, 12⟩]) (fun _ => rfl) (fun _ => rfl) (blk_new _ _) (fun x => x) rfl (by unfold maxLen; omega)⟩ (fun j _ _ _ _ u h => HST.out j u _ _ ((Kept.refl _ _).alloc _) h) (fun j _ h => HIST.out j _ _ ((Kept.refl _ _).alloc _) h)
        · refine asksH_intro ?_; intro o ho a wx hc hout hp hi R hR; cases ho
          refine .inl ⟨wanted_some rfl rfl (hp 24 (by omega) rfl), ?_⟩
          have e107 : a.tmps[107]?.getD undef = .slice a13 2 c13 := hp 25 (by omega) rfl
          obtain ⟨_, q111⟩ : ∃ _ : Unit, RdS wx NoM 3 EAk (a.tmps[111]?.getD undef) ([⟨3, 5, 0⟩, ⟨3, 6, 12⟩] : List Ak) := hp 29 (by omega) rfl
          go_simp
          refine (sameacks_ok _ _ [⟨3, 5, 0⟩, ⟨3, 6, 12⟩] NoM NoM wx (H13.out.kept hc.of_no (fun _ _ x => x)) q111 (by decide)).mono ?_
          rintro e w2 ⟨rfl, n9, rfl⟩
          exact ⟨_, rfl, hR _ _ (hc.drewN n9) rfl (fun j _ _ _ _ u h => HST.out j u _ _ ((Kept.refl NoM wx).drewN n9) h) (fun j _ h => HIST.out j _ _ ((Kept.refl NoM wx).drewN n9) h)⟩
        · refine asksH_intro ?_; intro o ho a wx hc hout hp hi R hR; cases ho
          refine .inl ⟨wanted_none rfl, ?_⟩
          have e106 : a.tmps[106]?.getD undef = .bool true := hp 24 (by omega) rfl
          have e112 : a.tmps[112]?.getD undef = .bool true := hp 30 (by omega) rfl
          go_simp
          exact hR _ _ hc rfl (fun _ _ _ _ _ u h => h) (fun _ _ h => h)
      · intro vs w' hc hp
        have e113 : vs 31 = .bool true := hp 31 (by omega) rfl
        simp only [List.take_succ_cons, List.take_zero, List.drop_succ_cons, List.drop_zero, putAll, Act.put, List.setIfInBounds_toArray, List.set_cons_zero, List.set_cons_succ, Nat.reduceAdd, e113]
        change wpList _ _ _ _ _ _
        have HC14 := Lib.hid hc
        generalize w' = u18 at *
        clear hc hp
        go_wp2_with fail
        have Y8 := Lib.hid (HC14.out.blk X8.out (fun x => x))
        have Y12 := Lib.hid (HC14.out.blk X12.out (fun x => x))
        have Y3 := Lib.hid (HC14.out.blk X3.out (fun x => x))
        have Z8 := Lib.hid (RR8.out.kept HC14.out)
        have Z12 := Lib.hid (RR12.out.kept HC14.out)
        have KZ := Lib.hid (KW.out.trans HC14.out)
        clear X8 X12 X3 RR8 RR12 HC14 KW H7 H9 H11 H13 X15 X16
        refine wp_region_parH 37 [] [] [] [] [] (fun wx => Kept NoM u18 wx)
              [fun v _ => v = .bool true, fun v _ => v = .bool true, fun v _ => v = .bool true, fun v _ => v = .bool true, fun v _ => v = .bool true, fun v _ => v = .pointer (some ⟨B8, 2, none⟩), fun v _ => v = .slice ta8 1 tc8, fun v _ => v = .agg (wrC (putW 2 7)), fun v _ => v = .agg (ruC (putW 2 7).rule), fun v wx => ∃ _ : Unit, RdS wx NoM 23 ERu v [(putW 2 7).rule], fun v _ => v = .bool true, fun v _ => v = .bool true, fun v _ => v = .bool true, fun v _ => v = .pointer (some ⟨B12, 2, none⟩), fun v _ => v = .slice ta12 2 tc12, fun v _ => v = .int .i64 2, fun v _ => v = .bool true, fun v _ => v = .bool true, fun v _ => v = .bool true, fun v _ => v = .agg (devC exG ta12 tc12 qa12 qc12 da12 dc12 la12 lc12), fun v _ => v = .int .i64 0, fun v _ => v = .bool true, fun v _ => v = .bool true, fun v _ => v = .bool true, fun v _ => v = .agg (devC exG ta12 tc12 qa12 qc12 da12 dc12 la12 lc12), fun v _ => v = .bool true, fun v _ => v = .bool true, fun v _ => v = .bool true, fun v _ => v = .agg (wrC exDrop), fun v _ => v = .bool true, fun v _ => v = .bool true, fun v _ => v = .bool true, fun v _ => v = .pointer (some ⟨B12, 4, none⟩), fun v _ => v = .slice da12 5 dc12, fun v wx => ∃ _ : Unit, RdS wx NoM 1 EInt v [1, 2, 3, 4, 5], fun v _ => v = .bool true, fun v _ => v = .bool true] (by kernel_rfl) (by kernel_rfl) (by kernel_rfl) (Kept.refl NoM u18).drew (inits_nil) ?_ ?_
        · intro i hi9
          have hst := stab_all (posts := [fun v _ => v = .bool true, fun v _ => v = .bool true, fun v _ => v = .bool true, fun v _ => v = .bool true, fun v _ => v = .bool true, fun v _ => v = .pointer (some ⟨B8, 2, none⟩), fun v _ => v = .slice ta8 1 tc8, fun v _ => v = .agg (wrC (putW 2 7)), fun v _ => v = .agg (ruC (putW 2 7).rule), fun v wx => ∃ _ : Unit, RdS wx NoM 23 ERu v [(putW 2 7).rule], fun v _ => v = .bool true, fun v _ => v = .bool true, fun v _ => v = .bool true, fun v _ => v = .pointer (some ⟨B12, 2, none⟩), fun v _ => v = .slice ta12 2 tc12, fun v _ => v = .int .i64 2, fun v _ => v = .bool true, fun v _ => v = .bool true, fun v _ => v = .bool true, fun v _ => v = .agg (devC exG ta12 tc12 qa12 qc12 da12 dc12 la12 lc12), fun v _ => v = .int .i64 0, fun v _ => v = .bool true, fun v _ => v = .bool true, fun v _ => v = .bool true, fun v _ => v = .agg (devC exG ta12 tc12 qa12 qc12 da12 dc12 la12 lc12), fun v _ => v = .bool true, fun v _ => v = .bool true, fun v _ => v = .bool true, fun v _ => v = .agg (wrC exDrop), fun v _ => v = .bool true, fun v _ => v = .bool true, fun v _ => v = .bool true, fun v _ => v = .pointer (some ⟨B12, 4, none⟩), fun v _ => v = .slice da12 5 dc12, fun v wx => ∃ _ : Unit, RdS wx NoM 1 EInt v [1, 2, 3, 4, 5], fun v _ => v = .bool true, fun v _ => v = .bool true])        (stab_cons (stab_const _) (stab_cons (stab_const _) (stab_cons (stab_const _) (stab_cons (stab_const _) (stab_cons (stab_const _) (stab_cons (stab_const _) (stab_cons (stab_const _) (stab_cons (stab_const _) (stab_cons (stab_const _) (stab_cons (fun _ _ _ k ⟨u, h⟩ => ⟨u, h.kept k.of_no (fun _ _ x => x)⟩) (stab_cons (stab_const _) (stab_cons (stab_const _) (stab_cons (stab_const _) (stab_cons (stab_const _) (stab_cons (stab_const _) (stab_cons (stab_const _) (stab_cons (stab_const _) (stab_cons (stab_const _) (stab_cons (stab_const _) (stab_cons (stab_const _) (stab_cons (stab_const _) (stab_cons (stab_const _) (stab_cons (stab_const _) (stab_cons (stab_const _) (stab_cons (stab_const _) (stab_cons (stab_const _) (stab_cons (stab_const _) (stab_cons (stab_const _) (stab_cons (stab_const _) (stab_cons (stab_const _) (stab_cons (stab_const _) (stab_cons (stab_const _) (stab_cons (stab_const _) (stab_cons (stab_const _) (stab_cons (fun _ _ _ k ⟨u, h⟩ => ⟨u, h.kept k.of_no (fun _ _ x => x)⟩) (stab_cons (stab_const _) (stab_cons (stab_const _) stab_nil)))))))))))))))))))))))))))))))))))))
          have hist := init_stab (inits := []) (fun p h => by cases h)
          have HST := Lib.hid hst
          have HIST := Lib.hid hist
          clear hst hist
          rcases (show i = 0 ∨ i = 1 ∨ i = 2 ∨ i = 3 ∨ i = 4 ∨ i = 5 ∨ i = 6 ∨ i = 7 ∨ i = 8 ∨ i = 9 ∨ i = 10 ∨ i = 11 ∨ i = 12 ∨ i = 13 ∨ i = 14 ∨ i = 15 ∨ i = 16 ∨ i = 17 ∨ i = 18 ∨ i = 19 ∨ i = 20 ∨ i = 21 ∨ i = 22 ∨ i = 23 ∨ i = 24 ∨ i = 25 ∨ i = 26 ∨ i = 27 ∨ i = 28 ∨ i = 29 ∨ i = 30 ∨ i = 31 ∨ i = 32 ∨ i = 33 ∨ i = 34 ∨ i = 35 ∨ i = 36 by omega) with rfl | rfl | rfl | rfl | rfl | rfl | rfl | rfl | rfl | rfl | rfl | rfl | rfl | rfl | rfl | rfl | rfl | rfl | rfl | rfl | rfl | rfl | rfl | rfl | rfl | rfl | rfl | rfl | rfl | rfl | rfl | rfl | rfl | rfl | rfl | rfl | rfl
          · refine asksH_intro ?_; intro o ho a wx hc hout hp hi R hR; cases ho
            refine .inl ⟨wanted_none rfl, ?_⟩
            have e17 : a.tmps[17]? = some (.bool true) := hout 17 rfl
            go_simp
            exact hR _ _ hc rfl (fun _ _ _ _ _ u h => h) (fun _ _ h => h)
          · refine asksH_intro ?_; intro o ho a wx hc hout hp hi R hR; cases ho
            refine .inl ⟨wanted_none rfl, ?_⟩
            have e114 : a.tmps[114]?.getD undef = .bool true := hp 0 (by omega) rfl
            go_simp
            exact hR _ _ hc rfl (fun _ _ _ _ _ u h => h) (fun _ _ h => h)
          · refine asksH_intro ?_; intro o ho a wx hc hout hp hi R hR; cases ho
            refine .inl ⟨wanted_some rfl rfl (hp 1 (by omega) rfl), ?_⟩
            have e18 : a.tmps[18]? = some (.bool true) := hout 18 rfl
            go_simp
            exact hR _ _ hc rfl (fun _ _ _ _ _ u h => h) (fun _ _ h => h)
          · refine asksH_intro ?_; intro o ho a wx hc hout hp hi R hR; cases ho
            refine .inl ⟨wanted_none rfl, ?_⟩
            have e115 : a.tmps[115]?.getD undef = .bool true := hp 1 (by omega) rfl
            have e116 : a.tmps[116]?.getD undef = .bool true := hp 2 (by omega) rfl
            go_simp
            exact hR _ _ hc rfl (fun _ _ _ _ _ u h => h) (fun _ _ h => h)
          · refine asksH_intro ?_; intro o ho a wx hc hout hp hi R hR; cases ho
            refine .inl ⟨wanted_none rfl, ?_⟩
            have e117 : a.tmps[117]?.getD undef = .bool true := hp 3 (by omega) rfl
            go_simp
            exact hR _ _ hc rfl (fun _ _ _ _ _ u h => h) (fun _ _ h => h)
          · refine asksH_intro ?_; intro o ho a wx hc hout hp hi R hR; cases ho
            refine .inl ⟨wanted_some rfl rfl (hp 4 (by omega) rfl), ?_⟩
            have e8 : a.tmps[8]? = some (.pointer (some ⟨B8, 0, none⟩)) := hout 8 rfl
            go_simp
            exact hR _ _ hc rfl (fun _ _ _ _ _ u h => h) (fun _ _ h => h)
          · refine asksH_intro ?_; intro o ho a wx hc hout hp hi R hR; cases ho
            refine .inl ⟨wanted_some rfl rfl (hp 4 (by omega) rfl), ?_⟩
            have e119 : a.tmps[119]?.getD undef = .pointer (some ⟨B8, 2, none⟩) := hp 5 (by omega) rfl
            have y2 : wx.cell? ⟨B8, 2, none⟩ = some (.slice ta8 1 tc8) := cell_blk (hc.blk Y8.out (fun x => x)) 2 _ dv2
            go_simp
            exact hR _ _ hc rfl (fun _ _ _ _ _ u h => h) (fun _ _ h => h)
          · refine asksH_intro ?_; intro o ho a wx hc hout hp hi R hR; cases ho
            refine .inl ⟨wanted_some rfl rfl (hp 4 (by omega) rfl), ?_⟩
            go_simp
            refine (lput_ok 2 7 wx).mono ?_
            rintro e w2 ⟨rfl, q3⟩
            exact ⟨_, rfl, hR _ _ (hc.trans q3) rfl (fun j _ _ _ _ u h => HST.out j u _ _ q3 h) (fun j _ h => HIST.out j _ _ q3 h)⟩
          · refine asksH_intro ?_; intro o ho a wx hc hout hp hi R hR; cases ho
            refine .inl ⟨wanted_some rfl rfl (hp 4 (by omega) rfl), ?_⟩
            have e121 : a.tmps[121]?.getD undef = .agg (wrC (putW 2 7)) := hp 7 (by omega) rfl
            go_simp
            exact hR _ _ hc rfl (fun _ _ _ _ _ u h => h) (fun _ _ h => h)
          · refine asksH_intro ?_; intro o ho a wx hc hout hp hi R hR; cases ho
            refine .inl ⟨wanted_some rfl rfl (hp 4 (by omega) rfl), ?_⟩
            have e122 : a.tmps[122]?.getD undef = .agg (ruC (putW 2 7).rule) := hp 8 (by omega) rfl
            go_simp
            exact hR _ _ (hc.alloc _) ⟨(), rd_flat (f := ruL) (xs := [(putW 2 7).rule]) (fun _ => rfl) ruL_len (blk_new _ _) (fun x => x) rfl (by unfold maxLen; omega)⟩ (fun j _ _ _ _ u h => HST.out j u _ _ ((Kept.refl _ _).alloc _) h) (fun j _ h => HIST.out j _ _ ((Kept.refl _ _).alloc _) h)
          · refine asksH_intro ?_; intro o ho a wx hc hout hp hi R hR; cases ho
            refine .inl ⟨wanted_some rfl rfl (hp 4 (by omega) rfl), ?_⟩
            have e120 : a.tmps[120]?.getD undef = .slice ta8 1 tc8 := hp 6 (by omega) rfl
            obtain ⟨_, q123⟩ : ∃ _ : Unit, RdS wx NoM 23 ERu (a.tmps[123]?.getD undef) [(putW 2 7).rule] := hp 9 (by omega) rfl
            go_simp
            refine (rtsame_ok _ _ [(putW 2 7).rule] NoM NoM wx ((show RdS u18 NoM 23 ERu (.slice ta8 1 tc8) [(putW 2 7).rule] from Z8.out.rt).kept hc.of_no (fun _ _ x => x)) q123 (by decide) (fun r hr => by rw [List.mem_singleton] at hr; subst hr; exact OutB.nil _ rfl rfl rfl)).mono ?_
            rintro e w2 ⟨rfl, q3⟩
            exact ⟨_, rfl, hR _ _ (hc.trans q3) rfl (fun j _ _ _ _ u h => HST.out j u _ _ q3 h) (fun j _ h => HIST.out j _ _ q3 h)⟩
          · refine asksH_intro ?_; intro o ho a wx hc hout hp hi R hR; cases ho
            refine .inl ⟨wanted_none rfl, ?_⟩
            have e118 : a.tmps[118]?.getD undef = .bool true := hp 4 (by omega) rfl
            have e124 : a.tmps[124]?.getD undef = .bool true := hp 10 (by omega) rfl
            go_simp
            exact hR _ _ hc rfl (fun _ _ _ _ _ u h => h) (fun _ _ h => h)
          · refine asksH_intro ?_; intro o ho a wx hc hout hp hi R hR; cases ho
            refine .inl ⟨wanted_none rfl, ?_⟩
            have e125 : a.tmps[125]?.getD undef = .bool true := hp 11 (by omega) rfl
            go_simp
            exact hR _ _ hc rfl (fun _ _ _ _ _ u h => h) (fun _ _ h => h)
          · refine asksH_intro ?_; intro o ho a wx hc hout hp hi R hR; cases ho
            refine .inl ⟨wanted_some rfl rfl (hp 12 (by omega) rfl), ?_⟩
            have e12 : a.tmps[12]? = some (.pointer (some ⟨B12, 0, none⟩)) := hout 12 rfl
            go_simp
            exact hR _ _ hc rfl (fun _ _ _ _ _ u h => h) (fun _ _ h => h)
          · refine asksH_intro ?_; intro o ho a wx hc hout hp hi R hR; cases ho
            refine .inl ⟨wanted_some rfl rfl (hp 12 (by omega) rfl), ?_⟩
            have e127 : a.tmps[127]?.getD undef = .pointer (some ⟨B12, 2, none⟩) := hp 13 (by omega) rfl
            have y2 : wx.cell? ⟨B12, 2, none⟩ = some (.slice ta12 2 tc12) := cell_blk (hc.blk Y12.out (fun x => x)) 2 _ dv2
            go_simp
            exact hR _ _ hc rfl (fun _ _ _ _ _ u h => h) (fun _ _ h => h)
          · refine asksH_intro ?_; intro o ho a wx hc hout hp hi R hR; cases ho
            refine .inl ⟨wanted_some rfl rfl (hp 12 (by omega) rfl), ?_⟩
            have e128 : a.tmps[128]?.getD undef = .slice ta12 2 tc12 := hp 14 (by omega) rfl
            go_simp
            exact hR _ _ hc rfl (fun _ _ _ _ _ u h => h) (fun _ _ h => h)
          · refine asksH_intro ?_; intro o ho a wx hc hout hp hi R hR; cases ho
            refine .inl ⟨wanted_some rfl rfl (hp 12 (by omega) rfl), ?_⟩
            have e129 : a.tmps[129]?.getD undef = .int .i64 2 := hp 15 (by omega) rfl
            go_simp
            exact hR _ _ hc rfl (fun _ _ _ _ _ u h => h) (fun _ _ h => h)
          · refine asksH_intro ?_; intro o ho a wx hc hout hp hi R hR; cases ho
            refine .inl ⟨wanted_none rfl, ?_⟩
            have e126 : a.tmps[126]?.getD undef = .bool true := hp 12 (by omega) rfl
            have e130 : a.tmps[130]?.getD undef = .bool true := hp 16 (by omega) rfl
            go_simp
            exact hR _ _ hc rfl (fun _ _ _ _ _ u h => h) (fun _ _ h => h)
          · refine asksH_intro ?_; intro o ho a wx hc hout hp hi R hR; cases ho
            refine .inl ⟨wanted_none rfl, ?_⟩
            have e131 : a.tmps[131]?.getD undef = .bool true := hp 17 (by omega) rfl
            go_simp
            exact hR _ _ hc rfl (fun _ _ _ _ _ u h => h) (fun _ _ h => h)
          · refine asksH_intro ?_; intro o ho a wx hc hout hp hi R hR; cases ho
            refine .inl ⟨wanted_some rfl rfl (hp 18 (by omega) rfl), ?_⟩
            have e12 : a.tmps[12]? = some (.pointer (some ⟨B12, 0, none⟩)) := hout 12 rfl
            refine gives_load_big bigDev (.tmp 12) rfl B12 0 (devC exG ta12 tc12 qa12 qc12 da12 dc12 la12 lc12) (by go_simp) (range_blk (hc.blk Y12.out (fun x => x))) rfl ?_
            exact hR _ _ hc rfl (fun _ _ _ _ _ u h => h) (fun _ _ h => h)
          · refine asksH_intro ?_; intro o ho a wx hc hout hp hi R hR; cases ho
            refine .inl ⟨wanted_some rfl rfl (hp 18 (by omega) rfl), ?_⟩
            have e133 : a.tmps[133]?.getD undef = .agg (devC exG ta12 tc12 qa12 qc12 da12 dc12 la12 lc12) := hp 19 (by omega) rfl
            go_simp
            refine (check_ok _ exG NoM wx ⟨_, _, _, _, _, _, _, _, rfl, Z12.out.kept hc.of_no⟩ exG_right ⟨by decide, by decide, by decide⟩ rfl).mono ?_
            rintro e w2 ⟨rfl, q3⟩
            exact ⟨_, rfl, hR _ _ (hc.trans q3) rfl (fun j _ _ _ _ u h => HST.out j u _ _ q3 h) (fun j _ h => HIST.out j _ _ q3 h)⟩
          · refine asksH_intro ?_; intro o ho a wx hc hout hp hi R hR; cases ho
            refine .inl ⟨wanted_some rfl rfl (hp 18 (by omega) rfl), ?_⟩
            have e134 : a.tmps[134]?.getD undef = .int .i64 0 := hp 20 (by omega) rfl
            go_simp
            exact hR _ _ hc rfl (fun _ _ _ _ _ u h => h) (fun _ _ h => h)
          · refine asksH_intro ?_; intro o ho a wx hc hout hp hi R hR; cases ho
            refine .inl ⟨wanted_none rfl, ?_⟩
            have e132 : a.tmps[132]?.getD undef = .bool true := hp 18 (by omega) rfl
            have e135 : a.tmps[135]?.getD undef = .bool true := hp 21 (by omega) rfl
            go_simp
            exact hR _ _ hc rfl (fun _ _ _ _ _ u h => h) (fun _ _ h => h)
          · refine asksH_intro ?_; intro o ho a wx hc hout hp hi R hR; cases ho
            refine .inl ⟨wanted_none rfl, ?_⟩
            have e136 : a.tmps[136]?.getD undef = .bool true := hp 22 (by omega) rfl
            go_simp
            exact hR _ _ hc rfl (fun _ _ _ _ _ u h => h) (fun _ _ h => h)
          · refine asksH_intro ?_; intro o ho a wx hc hout hp hi R hR; cases ho
            refine .inl ⟨wanted_some rfl rfl (hp 23 (by omega) rfl), ?_⟩
            have e12 : a.tmps[12]? = some (.pointer (some ⟨B12, 0, none⟩)) := hout 12 rfl
            refine gives_load_big bigDev (.tmp 12) rfl B12 0 (devC exG ta12 tc12 qa12 qc12 da12 dc12 la12 lc12) (by go_simp) (range_blk (hc.blk Y12.out (fun x => x))) rfl ?_
            exact hR _ _ hc rfl (fun _ _ _ _ _ u h => h) (fun _ _ h => h)
          · refine asksH_intro ?_; intro o ho a wx hc hout hp hi R hR; cases ho
            refine .inl ⟨wanted_some rfl rfl (hp 23 (by omega) rfl), ?_⟩
            have e138 : a.tmps[138]?.getD undef = .agg (devC exG ta12 tc12 qa12 qc12 da12 dc12 la12 lc12) := hp 24 (by omega) rfl
            go_simp
            refine (honest_ok exG _ _ _ _ _ _ _ _ wx).mono ?_
            rintro e w2 ⟨rfl, q3⟩
            exact ⟨_, rfl, hR _ _ (hc.trans q3) rfl (fun j _ _ _ _ u h => HST.out j u _ _ q3 h) (fun j _ h => HIST.out j _ _ q3 h)⟩
          · refine asksH_intro ?_; intro o ho a wx hc hout hp hi R hR; cases ho
            refine .inl ⟨wanted_none rfl, ?_⟩
            have e137 : a.tmps[137]?.getD undef = .bool true := hp 23 (by omega) rfl
            have e139 : a.tmps[139]?.getD undef = .bool true := hp 25 (by omega) rfl
            go_simp
            exact hR _ _ hc rfl (fun _ _ _ _ _ u h => h) (fun _ _ h => h)
          · refine asksH_intro ?_; intro o ho a wx hc hout hp hi R hR; cases ho
            refine .inl ⟨wanted_none rfl, ?_⟩
            have e140 : a.tmps[140]?.getD undef = .bool true := hp 26 (by omega) rfl
            go_simp
            exact hR _ _ hc rfl (fun _ _ _ _ _ u h => h) (fun _ _ h => h)
          · refine asksH_intro ?_; intro o ho a wx hc hout hp hi R hR; cases ho
            refine .inl ⟨wanted_some rfl rfl (hp 27 (by omega) rfl), ?_⟩
            have e3 : a.tmps[3]? = some (.pointer (some ⟨D3, 0, none⟩)) := hout 3 rfl
            refine gives_load_big bigWr (.tmp 3) rfl D3 0 (wrC exDrop) (by go_simp) (range_blk (hc.blk Y3.out (fun x => x))) rfl ?_
            exact hR _ _ hc rfl (fun _ _ _ _ _ u h => h) (fun _ _ h => h)
          · refine asksH_intro ?_; intro o ho a wx hc hout hp hi R hR; cases ho
            refine .inl ⟨wanted_some rfl rfl (hp 27 (by omega) rfl), ?_⟩
            have e142 : a.tmps[142]?.getD undef = .agg (wrC exDrop) := hp 28 (by omega) rfl
            go_simp
            refine (exformed wx).mono ?_
            rintro e w2 ⟨rfl, q3⟩
            exact ⟨_, rfl, hR _ _ (hc.trans q3) rfl (fun j _ _ _ _ u h => HST.out j u _ _ q3 h) (fun j _ h => HIST.out j _ _ q3 h)⟩
          · refine asksH_intro ?_; intro o ho a wx hc hout hp hi R hR; cases ho
            refine .inl ⟨wanted_none rfl, ?_⟩
            have e141 : a.tmps[141]?.getD undef = .bool true := hp 27 (by omega) rfl
            have e143 : a.tmps[143]?.getD undef = .bool true := hp 29 (by omega) rfl
            go_simp
            exact hR _ _ hc rfl (fun _ _ _ _ _ u h => h) (fun _ _ h => h)
          · refine asksH_intro ?_; intro o ho a wx hc hout hp hi R hR; cases ho
            refine .inl ⟨wanted_none rfl, ?_⟩
            have e144 : a.tmps[144]?.getD undef = .bool true := hp 30 (by omega) rfl
            go_simp
            exact hR _ _ hc rfl (fun _ _ _ _ _ u h => h) (fun _ _ h => h)
          · refine asksH_intro ?_; intro o ho a wx hc hout hp hi R hR; cases ho
            refine .inl ⟨wanted_some rfl rfl (hp 31 (by omega) rfl), ?_⟩
            have e12 : a.tmps[12]? = some (.pointer (some ⟨B12, 0, none⟩)) := hout 12 rfl
            go_simp
            exact hR _ _ hc rfl (fun _ _ _ _ _ u h => h) (fun _ _ h => h)
          · refine asksH_intro ?_; intro o ho a wx hc hout hp hi R hR; cases ho
            refine .inl ⟨wanted_some rfl rfl (hp 31 (by omega) rfl), ?_⟩
            have e146 : a.tmps[146]?.getD undef = .pointer (some ⟨B12, 4, none⟩) := hp 32 (by omega) rfl
            have y2 : wx.cell? ⟨B12, 4, none⟩ = some (.slice da12 5 dc12) := cell_blk (hc.blk Y12.out (fun x => x)) 4 _ dv4
            go_simp
            exact hR _ _ hc rfl (fun _ _ _ _ _ u h => h) (fun _ _ h => h)
          · refine asksH_intro ?_; intro o ho a wx hc hout hp hi R hR; cases ho
            refine .inl ⟨wanted_some rfl rfl (hp 31 (by omega) rfl), ?_⟩
            go_simp
            exact hR _ _ (hc.alloc _) ⟨(), intRd (l := [1, 2, 3, 4, 5]) (blk_new _ _) rfl (by decide)⟩ (fun j _ _ _ _ u h => HST.out j u _ _ ((Kept.refl _ _).alloc _) h) (fun j _ h => HIST.out j _ _ ((Kept.refl _ _).alloc _) h)
          · refine asksH_intro ?_; intro o ho a wx hc hout hp hi R hR; cases ho
            refine .inl ⟨wanted_some rfl rfl (hp 31 (by omega) rfl), ?_⟩
            have e147 : a.tmps[147]?.getD undef = .slice da12 5 dc12 := hp 33 (by omega) rfl
            obtain ⟨_, q148⟩ : ∃ _ : Unit, RdS wx NoM 1 EInt (a.tmps[148]?.getD undef) [1, 2, 3, 4, 5] := hp 34 (by omega) rfl
            go_simp
            refine (sameints_ok _ _ [1, 2, 3, 4, 5] NoM NoM wx ((show RdS u18 NoM 1 EInt (.slice da12 5 dc12) [1, 2, 3, 4, 5] from Z12.out.rd).kept hc.of_no (fun _ _ x => x)) q148 (by decide)).mono ?_
            rintro e w2 ⟨rfl, n9, rfl⟩
            exact ⟨_, rfl, hR _ _ (hc.drewN n9) rfl (fun j _ _ _ _ u h => HST.out j u _ _ ((Kept.refl NoM wx).drewN n9) h) (fun j _ h => HIST.out j _ _ ((Kept.refl NoM wx).drewN n9) h)⟩
          · refine asksH_intro ?_; intro o ho a wx hc hout hp hi R hR; cases ho
            refine .inl ⟨wanted_none rfl, ?_⟩
            have e145 : a.tmps[145]?.getD undef = .bool true := hp 31 (by omega) rfl
            have e149 : a.tmps[149]?.getD undef = .bool true := hp 35 (by omega) rfl
            go_simp
            exact hR _ _ hc rfl (fun _ _ _ _ _ u h => h) (fun _ _ h => h)
        · intro vs w' hc hp
          have e150 : vs 36 = .bool true := hp 36 (by omega) rfl
          simp only [List.take_succ_cons, List.take_zero, List.drop_succ_cons, List.drop_zero, putAll, Act.put, List.setIfInBounds_toArray, List.set_cons_zero, List.set_cons_succ, Nat.reduceAdd, e150]
          change wpList _ _ _ _ _ _
          have HC15 := Lib.hid hc
          generalize w' = u19 at *
          clear hc hp
          go_wp2_with fail
          go_ret
          exact ⟨rfl, KZ.out.trans HC15.out⟩
end Go.Proofs.Ytghgegghlefclaa
