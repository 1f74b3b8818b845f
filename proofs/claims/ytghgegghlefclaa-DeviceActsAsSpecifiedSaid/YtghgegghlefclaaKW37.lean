/- Walks: the laws' own receive. -/
import Derived.Test.YtghgegghlefclaaKV3
import Derived.Test.YtghgegghlefclaaKRP
import Derived.Test.YtghgegghlefclaaKW31
import Derived.Test.YtghgegghlefclaaKW33
set_option linter.unusedVariables false
set_option linter.unusedSimpArgs false
set_option linter.unusedSectionVars false
namespace Go.Proofs.Ytghgegghlefclaa
open Go.RowKit
set_option maxHeartbeats 4000000
set_option maxRecDepth 8000
theorem lrecv_ok (v lv : Value) (d : Dev) (l : List Wr) (M ML : Nat → Prop) (w : World) (h : DevV w M v d) (hM : ∀ i, M i → i < w.heap.size) (hl : RdS w ML 26 EWr lv l) (hll : l.length ≤ 1000) (R : RD d) (F : Few d) (hf : ∀ x ∈ l, formedB x = true) :
    Calls Try.prog 36 #[v, lv] w fun e w' => ∃ v' av, e = .returned (.tuple #[v', av]) ∧ DevV w' M v' (stR d l l.length).1 ∧ RdS w' M 3 EAk av (stR d l l.length).2 ∧ Kept NoM w w' := by
  obtain ⟨ta, tc, qa, qc, da, dc, la, lc, rfl, h⟩ := h
  obtain ⟨lla, llc, rfl, _, _⟩ := hl.shape
  have K0 := Lib.hid (((Kept.refl NoM w).alloc (.cells (devC d ta tc qa qc da dc la lc) 27)).alloc (.cells devZC 27))
  have B0 := Lib.hid (blk_old (blk_new w (.cells (devC d ta tc qa qc da dc la lc) 27)) (.cells devZC 27))
  have B4 := Lib.hid (blk_new' (w.alloc (.cells (devC d ta tc qa qc da dc la lc) 27)) (.cells devZC 27) (w.heap.size + 1) (by simp))
  have HM := Lib.hid hM
  have HL := Lib.hid hl
  have HOK := Lib.hid (fun k hk => stR_ok R F hf k hk)
  have HFM := Lib.hid hf
  have D0 : Hid (DevR ((w.alloc (.cells (devC d ta tc qa qc da dc la lc) 27)).alloc (.cells devZC 27)) (MX M w.heap.size none) d ta tc qa qc da dc la lc) := Lib.hid ((h.mono (fun i hi q => by rcases q with q | q | q | q; exact q; omega; omega; cases q)).kept K0.out.of_no)
  clear h hM hl R F hf
  go_enter Try.func36, Try.ntmps36
  go_wp2_with (refine wpList_alloc_Z rfl 27 rfl _ (devZ _) ?_)
  go_loopw [6, 7] (fun ac i wr => ∃ (k : Nat) (ta : Option Addr) (tc : Nat) (qa : Option Addr) (qc : Nat) (da : Option Addr) (dc : Nat) (la : Option Addr) (lc : Nat) (a : Option Addr) (n cap : Nat) (O : Option Nat), k ≤ l.length ∧ ac = .slice a n cap ∧ (stR d l k).2.length = n ∧ i = .int .i64 k ∧ Hid (wr.heap[w.heap.size]? = some (.cells (devC (stR d l k).1 ta tc qa qc da dc la lc) 27 (0, 0))) ∧ Hid (wr.heap[w.heap.size + 1]? = some (.cells devZC 27 (0, 0))) ∧ Hid (DevR wr (MX M w.heap.size O) (stR d l k).1 ta tc qa qc da dc la lc) ∧ Hid (OwnS wr O 60 3 EAk (.slice a n cap) (stR d l k).2) ∧ Hid (∀ g, O = some g → w.heap.size + 2 ≤ g) ∧ Hid (Kept NoM w wr)) (fun _ i _ => l.length - (intOf i).toNat)
  case atStart => exact ⟨0, ta, tc, qa, qc, da, dc, la, lc, none, 0, 0, none, Nat.zero_le _, rfl, rfl, rfl, B0, B4, D0, Lib.hid (OwnS.nil _ _ _ _), Lib.hid (fun g hg => by cases hg), K0⟩
  case round =>
    obtain ⟨k, ta, tc, qa, qc, da, dc, la, lc, a, n, cap, O, hk, rfl, hn, rfl, HD, HZ, HR, HO, HOG, HK⟩ := hrel
    clear K0 B0 B4 D0
    have HWS : Hid (w.heap.size + 2 ≤ wr.heap.size) := Lib.hid (by have := lt_of_block HZ.out; omega)
    have HMM := Lib.hid (MX.at HM.out HWS.out HO.out.lt)
    have hnk : n ≤ 1000 := by rw [← hn]; have := (HOK.out k hk).2.2; omega
    by_cases hlt : k < l.length
    · have hki : (k : Int) < l.length := by omega
      obtain ⟨x, hx⟩ := getAt hlt
      obtain ⟨lb, lo, hle, _, hlc⟩ := wr_at (HL.out.kept HK.out.of_no (fun _ _ x => x)) hx
      have HLE := Lib.hid hle
      have HLC := Lib.hid hlc
      have HFO := Lib.hid (HFM.out x (List.mem_of_getElem? hx))
      have HKI := Lib.hid (show -9223372036854775808 ≤ x.kind ∧ x.kind ≤ 9223372036854775807 by have := (formed_kind HFO.out).1; omega)
      have HRD := Lib.hid (HOK.out k hk).1
      have HFW := Lib.hid (HOK.out k hk).2.1
      have HNZ := Lib.hid (HRD.out.recv HFO.out).nz
      have HSS := Lib.hid (stR_succ (d := d) hx)
      clear hle hlc hx
      go_wp2_with fail
      refine wp_region_see 13 [(11, 8)] [] [(10, 11)] [] [] [] (fun wx => Kept NoM wr wx)
            [fun v _ => v = .agg (devC (stR d l k).1 ta tc qa qc da dc la lc), fun v _ => v = .slice lla l.length llc, fun v _ => v = .int .i64 k, fun v _ => v = .pointer (some ⟨lb, lo + k * 26, none⟩), fun v _ => v = .agg (wrC x), fun v wx => ∃ tv tav, v = .tuple #[tv, tav, .int .i64 0] ∧ DevV wx (MX M w.heap.size O) tv (recvD (stR d l k).1 x) ∧ RdS wx (MX M w.heap.size O) 3 EAk tav (recvA (stR d l k).1 x), fun v wx => ∃ tv tav, v = .tuple #[tv, tav, .int .i64 0] ∧ DevV wx (MX M w.heap.size O) tv (recvD (stR d l k).1 x) ∧ RdS wx (MX M w.heap.size O) 3 EAk tav (recvA (stR d l k).1 x), fun v wx => ∃ _ : Unit, DevV wx (MX M w.heap.size O) v (recvD (stR d l k).1 x), fun v wx => ∃ _ : Unit, RdS wx (MX M w.heap.size O) 3 EAk v (recvA (stR d l k).1 x), fun v _ => v = .int .i64 0, fun v wx => ∃ b, (v = .pointer (some ⟨b, 0, none⟩) ∧ wr.heap.size ≤ b) ∧ wx.heap[b]? = some (.cells devZC 27 (0, 0)), fun v wx => ∃ (b : Nat) (c : Array Value), v = .pointer (some ⟨b, 0, none⟩) ∧ wr.heap.size ≤ b ∧ c.size = 7 ∧ wx.heap[b]? = some (.cells c 27 (0, 0)) ∧ DevV wx (MX M w.heap.size O) (.agg c) (recvD (stR d l k).1 x), fun v wx => ∃ _ : Unit, RdS wx (MX M w.heap.size O) 3 EAk v (recvA (stR d l k).1 x)] (by kernel_rfl) (by kernel_rfl) (by kernel_rfl) (by kernel_rfl) (Kept.refl NoM wr).drew (inits_nil) ?_ ?_
      · intro i hi9
        have hst := stab_all (posts := [fun v _ => v = .agg (devC (stR d l k).1 ta tc qa qc da dc la lc), fun v _ => v = .slice lla l.length llc, fun v _ => v = .int .i64 k, fun v _ => v = .pointer (some ⟨lb, lo + k * 26, none⟩), fun v _ => v = .agg (wrC x), fun v wx => ∃ tv tav, v = .tuple #[tv, tav, .int .i64 0] ∧ DevV wx (MX M w.heap.size O) tv (recvD (stR d l k).1 x) ∧ RdS wx (MX M w.heap.size O) 3 EAk tav (recvA (stR d l k).1 x), fun v wx => ∃ tv tav, v = .tuple #[tv, tav, .int .i64 0] ∧ DevV wx (MX M w.heap.size O) tv (recvD (stR d l k).1 x) ∧ RdS wx (MX M w.heap.size O) 3 EAk tav (recvA (stR d l k).1 x), fun v wx => ∃ _ : Unit, DevV wx (MX M w.heap.size O) v (recvD (stR d l k).1 x), fun v wx => ∃ _ : Unit, RdS wx (MX M w.heap.size O) 3 EAk v (recvA (stR d l k).1 x), fun v _ => v = .int .i64 0, fun v wx => ∃ b, (v = .pointer (some ⟨b, 0, none⟩) ∧ wr.heap.size ≤ b) ∧ wx.heap[b]? = some (.cells devZC 27 (0, 0)), fun v wx => ∃ (b : Nat) (c : Array Value), v = .pointer (some ⟨b, 0, none⟩) ∧ wr.heap.size ≤ b ∧ c.size = 7 ∧ wx.heap[b]? = some (.cells c 27 (0, 0)) ∧ DevV wx (MX M w.heap.size O) (.agg c) (recvD (stR d l k).1 x), fun v wx => ∃ _ : Unit, RdS wx (MX M w.heap.size O) 3 EAk v (recvA (stR d l k).1 x)])        (stab_cons (stab_const _) (stab_cons (stab_const _) (stab_cons (stab_const _) (stab_cons (stab_const _) (stab_cons (stab_const _) (stab_cons (stab_tup _ _ _) (stab_cons (stab_tup _ _ _) (stab_cons (fun _ _ _ k ⟨u, h⟩ => ⟨u, h.kept0 k⟩) (stab_cons (fun _ _ _ k ⟨u, h⟩ => ⟨u, h.kept k.of_no (fun _ _ x => x)⟩) (stab_cons (stab_const _) (stab_cons (stab_blk (fun b v => v = .pointer (some ⟨b, 0, none⟩) ∧ wr.heap.size ≤ b) (fun b => b) (fun b => .cells devZC 27 (0, 0))) (stab_cons (fun _ _ _ k ⟨b, c, h1, h2, h3, h4, h5⟩ => ⟨b, c, h1, h2, h3, k.blk h4 (fun x => x), h5.kept0 k⟩) (stab_cons (fun _ _ _ k ⟨u, h⟩ => ⟨u, h.kept k.of_no (fun _ _ x => x)⟩) stab_nil)))))))))))))
        have hist := init_stab (inits := []) (fun p h => by cases h)
        have HST := Lib.hid hst
        have HIST := Lib.hid hist
        clear hst hist
        rcases (show i = 0 ∨ i = 1 ∨ i = 2 ∨ i = 3 ∨ i = 4 ∨ i = 5 ∨ i = 6 ∨ i = 7 ∨ i = 8 ∨ i = 9 ∨ i = 10 ∨ i = 11 ∨ i = 12 by omega) with rfl | rfl | rfl | rfl | rfl | rfl | rfl | rfl | rfl | rfl | rfl | rfl | rfl
        · refine asksS_intro ?_; intro o ho a wx hc hout hp hi R hR; cases ho
          have e2 : a.tmps[2]? = some (.pointer (some ⟨w.heap.size, 0, none⟩)) := hout 2 rfl
          refine gives_load_big bigDev (.tmp 2) rfl w.heap.size 0 (devC (stR d l k).1 ta tc qa qc da dc la lc) (by go_simp) (range_blk (hc.blk HD.out (fun x => x))) rfl ?_
          exact hR _ _ hc rfl (fun _ _ _ _ _ u h => h) (fun _ _ h => h)
        · refine asksS_intro ?_; intro o ho a wx hc hout hp hi R hR; cases ho
          have e1 : a.tmps[1]? = some (.slice lla l.length llc) := hout 1 rfl
          go_simp
          exact hR _ _ hc rfl (fun _ _ _ _ _ u h => h) (fun _ _ h => h)
        · refine asksS_intro ?_; intro o ho a wx hc hout hp hi R hR; cases ho
          have e7 : a.tmps[7]? = some (.int .i64 k) := hout 7 rfl
          go_simp
          exact hR _ _ hc rfl (fun _ _ _ _ _ u h => h) (fun _ _ h => h)
        · refine asksS_intro ?_; intro o ho a wx hc hout hp hi R hR; cases ho
          have e19 : a.tmps[19]?.getD undef = .slice lla l.length llc := hp 1 (by omega) rfl
          have e20 : a.tmps[20]?.getD undef = .int .i64 k := hp 2 (by omega) rfl
          rw [HLE.out] at e19
          go_simp
          exact hR _ _ hc rfl (fun _ _ _ _ _ u h => h) (fun _ _ h => h)
        · refine asksS_intro ?_; intro o ho a wx hc hout hp hi R hR; cases ho
          have e21 : a.tmps[21]?.getD undef = .pointer (some ⟨lb, lo + k * 26, none⟩) := hp 3 (by omega) rfl
          refine gives_load_big bigWr (.tmp 21) rfl lb (lo + k * 26) (wrC x) (by go_simp) (rangeAt_kept HLC.out hc (fun x => x)) rfl ?_
          exact hR _ _ hc rfl (fun _ _ _ _ _ u h => h) (fun _ _ h => h)
        · refine asksS_intro ?_; intro o ho a wx hc hout hp hi R hR; cases ho
          have e18 : a.tmps[18]?.getD undef = .agg (devC (stR d l k).1 ta tc qa qc da dc la lc) := hp 0 (by omega) rfl
          have e22 : a.tmps[22]?.getD undef = .agg (wrC x) := hp 4 (by omega) rfl
          go_simp
          refine (recv_ok _ (stR d l k).1 x (MX M w.heap.size O) wx ⟨_, _, _, _, _, _, _, _, rfl, HR.out.kept hc.of_no⟩ (fun i hi => Nat.lt_of_lt_of_le (HMM.out i hi) hc.size) HRD.out.ql HFW.out.dn (fun wy _ => by have := formed_ok x wy HKI.out.1 HKI.out.2; rw [HFO.out] at this; exact this)).mono ?_
          rintro e w2 ⟨v, av, rfl, q1, q2, q3⟩
          exact ⟨_, rfl, hR _ _ (hc.trans q3) ⟨v, av, rfl, q1, q2⟩ (fun j _ _ _ _ u h => HST.out j u _ _ q3 h) (fun j _ h => HIST.out j _ _ q3 h)⟩
        · refine asksS_intro ?_; intro o ho a wx hc hout hp hi R hR; cases ho
          obtain ⟨tv, tav, e23, tv2, tv3⟩ : ∃ tv tav, (a.tmps[23]?.getD undef) = .tuple #[tv, tav, .int .i64 0] ∧ DevV wx (MX M w.heap.size O) tv (recvD (stR d l k).1 x) ∧ RdS wx (MX M w.heap.size O) 3 EAk tav (recvA (stR d l k).1 x) := hp 5 (by omega) rfl
          go_simp
          exact hR _ _ hc ⟨tv, tav, rfl, tv2, tv3⟩ (fun _ _ _ _ _ u h => h) (fun _ _ h => h)
        · refine asksS_intro ?_; intro o ho a wx hc hout hp hi R hR; cases ho
          obtain ⟨tv, tav, e17, tv2, tv3⟩ : ∃ tv tav, (a.tmps[17]?.getD undef) = .tuple #[tv, tav, .int .i64 0] ∧ DevV wx (MX M w.heap.size O) tv (recvD (stR d l k).1 x) ∧ RdS wx (MX M w.heap.size O) 3 EAk tav (recvA (stR d l k).1 x) := hp 6 (by omega) rfl
          go_simp
          exact hR _ _ hc ⟨(), tv2⟩ (fun _ _ _ _ _ u h => h) (fun _ _ h => h)
        · refine asksS_intro ?_; intro o ho a wx hc hout hp hi R hR; cases ho
          obtain ⟨tv, tav, e17, tv2, tv3⟩ : ∃ tv tav, (a.tmps[17]?.getD undef) = .tuple #[tv, tav, .int .i64 0] ∧ DevV wx (MX M w.heap.size O) tv (recvD (stR d l k).1 x) ∧ RdS wx (MX M w.heap.size O) 3 EAk tav (recvA (stR d l k).1 x) := hp 6 (by omega) rfl
          go_simp
          exact hR _ _ hc ⟨(), tv3⟩ (fun _ _ _ _ _ u h => h) (fun _ _ h => h)
        · refine asksS_intro ?_; intro o ho a wx hc hout hp hi R hR; cases ho
          obtain ⟨tv, tav, e17, tv2, tv3⟩ : ∃ tv tav, (a.tmps[17]?.getD undef) = .tuple #[tv, tav, .int .i64 0] ∧ DevV wx (MX M w.heap.size O) tv (recvD (stR d l k).1 x) ∧ RdS wx (MX M w.heap.size O) 3 EAk tav (recvA (stR d l k).1 x) := hp 6 (by omega) rfl
          go_simp
          exact hR _ _ hc rfl (fun _ _ _ _ _ u h => h) (fun _ _ h => h)
        · refine asksS_intro ?_; intro o ho a wx hc hout hp hi R hR; cases ho
          refine gives_alloc_Z 27 rfl _ (devZ _) ?_
          exact hR _ _ (hc.alloc _) ⟨_, ⟨rfl, hc.size⟩, blk_new _ _⟩ (fun j _ _ _ _ u h => HST.out j u _ _ ((Kept.refl _ _).alloc _) h) (fun j _ h => HIST.out j _ _ ((Kept.refl _ _).alloc _) h)
        · refine asksS_intro ?_; intro o ho a wx hc hout hp hi R hR; cases ho
          obtain ⟨_, q24⟩ : ∃ _ : Unit, DevV wx (MX M w.heap.size O) (a.tmps[24]?.getD undef) (recvD (stR d l k).1 x) := hp 7 (by omega) rfl
          obtain ⟨b, e8, hb8⟩ : ∃ b, (a.tmps[8]?.getD undef = .pointer (some ⟨b, 0, none⟩) ∧ wr.heap.size ≤ b) ∧ wx.heap[b]? = some (.cells devZC 27 (0, 0)) := hp 10 (by omega) rfl
          obtain ⟨e8, hs8⟩ := e8
          obtain ⟨sta, stc, sqa, sqc, sda, sdc, sla, slc, e24, qr⟩ := q24
          refine gives_store_bigb (cs := devC (recvD (stR d l k).1 x) sta stc sqa sqc sda sdc sla slc) bigDev (.tmp 8) (.tmp 24) rfl b (by go_simp) (by go_simp) hb8 rfl rfl (dev1 _ _ _ _ _ _ _ _ _) ?_
          refine hR _ _ (hc.putN hs8 _ _) ⟨b, _, e8, hs8, rfl, putB_blk _ _ _ _ (lt_of_block hb8), ⟨_, _, _, _, _, _, _, _, rfl, qr.putZ HNZ.out hb8 _⟩⟩ (fun j hj hne hcn hwf u h => ?_) (fun q hq h => ?_)
          · rcases (show j = 0 ∨ j = 1 ∨ j = 2 ∨ j = 3 ∨ j = 4 ∨ j = 5 ∨ j = 6 ∨ j = 7 ∨ j = 8 ∨ j = 9 ∨ j = 10 ∨ j = 11 ∨ j = 12 by omega) with rfl | rfl | rfl | rfl | rfl | rfl | rfl | rfl | rfl | rfl | rfl | rfl | rfl <;> first | exact h | exact absurd hcn (by decide) | exact absurd rfl hne | (obtain ⟨v0, av0, h1, h2, h3⟩ := h; exact ⟨v0, av0, h1, h2.putZ HNZ.out hb8 _, acks_putZ h3 hb8 _⟩) | (obtain ⟨u0, h2⟩ := h; exact ⟨u0, h2.putZ HNZ.out hb8 _⟩) | (obtain ⟨u0, h2⟩ := h; exact ⟨u0, acks_putZ h2 hb8 _⟩) | exact absurd (hwf.symm.trans (by kernel_rfl)) Bool.false_ne_true
          · trivial
        · refine asksS_intro ?_; intro o ho a wx hc hout hp hi R hR; cases ho
          obtain ⟨_, q25⟩ : ∃ _ : Unit, RdS wx (MX M w.heap.size O) 3 EAk (a.tmps[25]?.getD undef) (recvA (stR d l k).1 x) := hp 8 (by omega) rfl
          go_simp
          exact hR _ _ hc ⟨(), q25⟩ (fun _ _ _ _ _ u h => h) (fun _ _ h => h)
      · intro vs w' hc hp
        have e18 : vs 0 = .agg (devC (stR d l k).1 ta tc qa qc da dc la lc) := hp 0 (by omega) rfl
        have e19 : vs 1 = .slice lla l.length llc := hp 1 (by omega) rfl
        have e20 : vs 2 = .int .i64 k := hp 2 (by omega) rfl
        have e21 : vs 3 = .pointer (some ⟨lb, lo + k * 26, none⟩) := hp 3 (by omega) rfl
        have e22 : vs 4 = .agg (wrC x) := hp 4 (by omega) rfl
        have e26 : vs 9 = .int .i64 0 := hp 9 (by omega) rfl
        obtain ⟨b, c, e8, hb8, hc8, hbb8, q8⟩ : ∃ (b : Nat) (c : Array Value), (vs 10) = .pointer (some ⟨b, 0, none⟩) ∧ wr.heap.size ≤ b ∧ c.size = 7 ∧ w'.heap[b]? = some (.cells c 27 (0, 0)) ∧ DevV w' (MX M w.heap.size O) (.agg c) (recvD (stR d l k).1 x) := hp 11 (by omega) rfl 10 (by omega) rfl
        obtain ⟨_, q9⟩ : ∃ _ : Unit, RdS w' (MX M w.heap.size O) 3 EAk (vs 12) (recvA (stR d l k).1 x) := hp 12 (by omega) rfl
        simp only [List.take_succ_cons, List.take_zero, List.drop_succ_cons, List.drop_zero, putAll, Act.put, List.setIfInBounds_toArray, List.set_cons_zero, List.set_cons_succ, Nat.reduceAdd, e18, e19, e20, e21, e22, e26]
        rw [e8]
        obtain ⟨nta, ntc, nqa, nqc, nda, ndc, nla, nlc, en, qn⟩ := q8
        obtain rfl := Value.agg.inj en
        change wpList _ _ _ _ _ _
        have HC9 := Lib.hid hc
        have HB8 := Lib.hid hbb8
        have HS8 := Lib.hid hb8
        have HN8 := Lib.hid qn
        have HA9 := Lib.hid q9
        clear hc hp hbb8 hb8 qn q9 en hc8 e18 e19 e20 e21 e22
        generalize w' = we at *
        generalize vs 12 = av9 at *
        have HD9 := Lib.hid (HC9.out.blk HD.out (fun x => x))
        have KP := Lib.hid ((Kept.refl (MX M w.heap.size O) we).putM (b := w.heap.size) (.inr (.inl rfl)) (devC (recvD (stR d l k).1 x) nta ntc nqa nqc nda ndc nla nlc) 27)
        have HA2 := Lib.hid (HA9.out.kept KP.out (fun _ _ x => x))
        have HN2 := Lib.hid (HN8.out.kept KP.out)
        have HO2 := Lib.hid ((HO.out.kept HC9.out (fun _ _ x => x) (fun _ _ x => x)).kept ((Kept.refl (fun i => i = w.heap.size) we).putM (b := w.heap.size) rfl (devC (recvD (stR d l k).1 x) nta ntc nqa nqc nda ndc nla nlc) 27) (fun g hg e => by have := HOG.out g hg; omega) (fun _ _ x => x))
        have HP2 := Lib.hid (putB_blk we w.heap.size (devC (recvD (stR d l k).1 x) nta ntc nqa nqc nda ndc nla nlc) 27 (lt_of_block HD9.out))
        have HZ2 : Hid ((putB we w.heap.size (devC (recvD (stR d l k).1 x) nta ntc nqa nqc nda ndc nla nlc) 27).heap[w.heap.size + 1]? = some (.cells devZC 27 (0, 0))) := Lib.hid ((putB_blk_ne _ _ _ _ _ (by omega)).trans (HC9.out.blk HZ.out (fun x => x)))
        have KP2 := Lib.hid ((HK.out.trans HC9.out).putN (b := w.heap.size) (Nat.le_refl _) (devC (recvD (stR d l k).1 x) nta ntc nqa nqc nda ndc nla nlc) 27)
        have hal := recvA_len (stR d l k).1 x
        obtain ⟨ava, avc, rfl, _, _⟩ := HA9.out.shape
        go_wp2_with (first       | (refine wpList_load_big bigDev rfl _ rfl b 0 (devC (recvD (stR d l k).1 x) nta ntc nqa nqc nda ndc nla nlc) rfl (range_blk HB8.out) rfl ?_)       | (refine wpList_store_bigb (cs := devC (recvD (stR d l k).1 x) nta ntc nqa nqc nda ndc nla nlc) bigDev rfl _ _ rfl w.heap.size rfl rfl HD9.out rfl rfl (dev1 _ _ _ _ _ _ _ _ _) ?_)       | (at_builtin; go_loud (refine wpList_append_S (M := (MX M w.heap.size O)) rfl (.tmp 31) (.tmp 32) 43 rfl 24 tyAcks _ rfl HO2.out _ rfl HA2.out eAk_one n _ hn rfl (by unfold maxLen; omega) (by omega) ?_; intro a5 cap5 w5 O5 hown hkk hnn5)))
        go_roundw
        case rel => exact ⟨k + 1, nta, ntc, nqa, nqc, nda, ndc, nla, nlc, a5, _, cap5, O5, by omega, rfl, by rw [HSS.out, List.length_append]; omega, by go_num, by rw [HSS.out]; exact Lib.hid (hkk.blk HP2.out (fun e => by have := HOG.out _ e.symm; omega)), Lib.hid (hkk.blk HZ2.out (fun e => by have := HOG.out _ e.symm; omega)), by rw [HSS.out]; exact Lib.hid (HN2.out.step' hkk (fun i _ e => .inr (.inr (.inr e))) (fun i hi q => by rcases q with q | q | q | q; exact .inl q; exact .inr (.inl q); exact .inr (.inr (.inl q)); rcases hnn5 with e | ⟨g, e, hg⟩; exact .inr (.inr (.inr (q.trans e))); rw [e] at q; cases q; omega)), by rw [HSS.out]; exact Lib.hid hown, Lib.hid (fun g hg => by rcases hnn5 with e | ⟨g', e, hg'⟩; exact HOG.out g (e.symm.trans hg); rw [e] at hg; cases hg; have := KP.out.size; have := HC9.out.size; have := HWS.out; omega), Lib.hid (KP2.out.trans' hkk (fun i hi e => by have := HOG.out i e.symm; omega))⟩
        case measure => simp [intOf]; omega
    · obtain rfl : k = l.length := by omega
      have f1 := decide_eq_false (show ¬ ((l.length : Nat) : Int) < l.length by omega)
      have f2 := decide_eq_false (show ¬ l.length < l.length by omega)
      go_wp2_with (first
        | (refine wpList_load_big bigDev rfl _ rfl w.heap.size 0 (devC (stR d l l.length).1 ta tc qa qc da dc la lc) rfl (range_blk HD.out) rfl ?_)
        | (refine wpList_store_bigb (cs := devC (stR d l l.length).1 ta tc qa qc da dc la lc) bigDev rfl _ _ rfl (w.heap.size + 1) rfl rfl HZ.out rfl rfl (dev1 _ _ _ _ _ _ _ _ _) ?_))
      have GB := Lib.hid (putB_blk wr (w.heap.size + 1) (devC (stR d l l.length).1 ta tc qa qc da dc la lc) 27 (lt_of_block HZ.out))
      have FD := Lib.hid (HR.out.kept ((Kept.refl (MX M w.heap.size O) wr).putM (b := w.heap.size + 1) (.inr (.inr (.inl rfl))) (devC (stR d l l.length).1 ta tc qa qc da dc la lc) 27))
      have FO := Lib.hid (HO.out.kept ((Kept.refl (fun i => i = w.heap.size + 1) wr).putM (b := w.heap.size + 1) rfl (devC (stR d l l.length).1 ta tc qa qc da dc la lc) 27) (fun g hg e => by have := HOG.out g hg; omega) (fun _ _ x => x))
      have FK := Lib.hid (HK.out.putN (b := w.heap.size + 1) (by omega) (devC (stR d l l.length).1 ta tc qa qc da dc la lc) 27)
      generalize putB wr (w.heap.size + 1) (devC (stR d l l.length).1 ta tc qa qc da dc la lc) 27 = wx at *
      have hl0 : _root_.Go.World.cell? _ ⟨w.heap.size + 1, 0, none⟩ = _ := cell_blk GB.out 0 _ dv0
      have hl1 : _root_.Go.World.cell? _ ⟨w.heap.size + 1, 1, none⟩ = _ := cell_blk GB.out 1 _ dv1
      have hl2 : _root_.Go.World.cell? _ ⟨w.heap.size + 1, 2, none⟩ = _ := cell_blk GB.out 2 _ dv2
      have hl3 : _root_.Go.World.cell? _ ⟨w.heap.size + 1, 3, none⟩ = _ := cell_blk GB.out 3 _ dv3
      have hl4 : _root_.Go.World.cell? _ ⟨w.heap.size + 1, 4, none⟩ = _ := cell_blk GB.out 4 _ dv4
      have hl5 : _root_.Go.World.cell? _ ⟨w.heap.size + 1, 5, none⟩ = _ := cell_blk GB.out 5 _ dv5
      have hl6 : _root_.Go.World.cell? _ ⟨w.heap.size + 1, 6, none⟩ = _ := cell_blk GB.out 6 _ dv6
      refine bodyPost_ret (v := .tuple #[.agg (devC (stR d l l.length).1 ta tc qa qc da dc la lc), .slice a n cap]) (by simp [results, Try.results36, go_sem, devC, hl0, hl1, hl2, hl3, hl4, hl5, hl6]) rfl ?_
      exact ⟨_, _, rfl, ⟨_, _, _, _, _, _, _, _, rfl, FD.out.mono (fun i _ q => .inl q)⟩, FO.out.rd (fun g hg q => by have := HM.out g q; have := HOG.out g hg; omega), FK.out⟩
end Go.Proofs.Ytghgegghlefclaa
