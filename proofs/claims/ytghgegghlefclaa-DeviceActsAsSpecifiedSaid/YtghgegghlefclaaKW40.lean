/- Walks: Check of the program, at a right device with nothing that waits. -/
import Derived.Test.YtghgegghlefclaaKRP
import Derived.Test.YtghgegghlefclaaKV3
import Derived.Test.YtghgegghlefclaaKW19
import Derived.Test.YtghgegghlefclaaKW4
set_option linter.unusedVariables false
set_option linter.unusedSimpArgs false
set_option linter.unusedSectionVars false
namespace Go.Proofs.Ytghgegghlefclaa
open Go.RowKit
set_option maxHeartbeats 2000000
set_option maxRecDepth 8000
theorem chka_ok (n : Int) (w : World) : Calls Try.prog 71 #[.int .i64 n] w fun e w' => e = .returned (.int .i64 n) ∧ w = w' := by
  go_enter Try.func71, Try.ntmps71
  go_wp2_with fail
  go_ret
  exact ⟨rfl, rfl⟩
theorem chkb_ok (x : Ru) (w : World) (h : okP x.pri = true) : Calls Try.prog 72 #[.agg (ruC x)] w fun e w' => e = .returned (.int .i64 (65536 - x.pri)) ∧ Kept NoM w w' := by
  have hp := okP_iff.1 h
  have hb := blk_new w (.cells (ruC x) 39)
  have x0 := cell_blk hb 0 _ (ruC_0 x)
  have hw : IntKind.i64.wrap (65536 - x.pri) = 65536 - x.pri := IntWalk.i64_in _ (by omega)
  have K := Lib.hid ((Kept.refl NoM w).alloc (.cells (ruC x) 39))
  clear h hb
  go_enter Try.func72, Try.ntmps72
  go_wp2_with fail
  go_ret
  exact ⟨by simp [hw], K.out⟩
theorem risi_ok (v : Value) (t : List Int) (M : Nat → Prop) (w : World) (h : RdS w M 1 EInt v t) (hl : t.length ≤ 1000000) (ht : IncI t ∧ ∀ n ∈ t, okN n = true) :
    Calls Try.prog 74 #[v, .int .i64 1073741824, .func (.func 71) #[] #[]] w fun e w' => e = .returned (.bool true) ∧ w = w' := by
  obtain ⟨a, cap, rfl, _, _⟩ := h.shape
  have HH := Lib.hid h
  have HS := Lib.hid (stepI_of ht)
  clear h ht
  go_enter Try.func74, Try.ntmps74
  go_wp2_with fail
  go_loop [11] (fun i => ∃ k : Nat, k ≤ t.length ∧ i = .int .i64 k) (fun i => t.length - (intOf i).toNat)
  case atStart => exact ⟨0, Nat.zero_le _, rfl⟩
  case round =>
    obtain ⟨k, hk, rfl⟩ := hrel
    by_cases hlt : k < t.length
    · have hki : (k : Int) < t.length := by omega
      obtain ⟨x, hx⟩ := getAt hlt
      obtain ⟨b, off, e1, hc⟩ := int_at HH.out hx
      subst e1
      obtain ⟨hx1, hx2⟩ := HS.out k x hx
      have WI := Lib.hid (fun wx => within_ok x 1 1073741824 wx)
      have hin : inB x 1 1073741824 = true := hx1
      rw [hin] at WI
      have CA := Lib.hid (fun n wx => chka_ok n wx)
      by_cases h0 : k = 0
      · have f2 : decide ((0 : Int) < k) = false := decide_eq_false (by omega)
        have f3 : decide (0 < k) = false := decide_eq_false (by omega)
        clear hx hx1 hx2 h0
        go_wp2_with (first
          | (go_at_call 71; refine (CA.out _ _).mono ?_; rintro e w2 ⟨rfl, rfl⟩)
          | (go_at_call 70; refine (WI.out _).mono ?_; rintro e w2 ⟨rfl, rfl⟩))
        go_round
        case rel => exact ⟨k + 1, by omega, by go_num⟩
        case measure => simp [intOf]; omega
      · obtain ⟨y, hy⟩ := getAt (xs := t) (k := k - 1) (by omega)
        obtain ⟨b', off', e2, hc2⟩ := int_at HH.out hy
        simp only [Option.some.injEq, Addr.mk.injEq, and_true] at e2
        obtain ⟨rfl, rfl⟩ := e2
        have hlt2 := hx2 y (by omega) hy
        have f1 : decide (x ≤ y) = false := decide_eq_false (by omega)
        have f2 : decide ((0 : Int) < k) = true := decide_eq_true (by omega)
        have hw : IntKind.i64.wrap ((k : Int) - 1) = ((k - 1 : Nat) : Int) := by rw [IntWalk.i64_in _ (by omega)]; omega
        have f3 : ((k - 1 : Nat) : Int) < t.length := by omega
        have f4 : k - 1 < t.length := by omega
        clear hx hx1 hx2 hy
        go_wp2_with (first
          | (go_at_call 71; refine (CA.out _ _).mono ?_; rintro e w2 ⟨rfl, rfl⟩)
          | (go_at_call 70; refine (WI.out _).mono ?_; rintro e w2 ⟨rfl, rfl⟩))
        go_round
        case rel => exact ⟨k + 1, by omega, by go_num⟩
        case measure => simp [intOf]; omega
    · obtain rfl : k = t.length := by omega
      have f1 := decide_eq_false (show ¬ ((t.length : Nat) : Int) < t.length by omega)
      go_wp2_with fail
      go_ret
      exact ⟨rfl, rfl⟩
theorem risr_ok (v : Value) (t : List Ru) (M : Nat → Prop) (room : Int) (w : World) (h : RdS w M 23 ERu v t) (hl : t.length ≤ 1000000) (ht : RT t room) :
    Calls Try.prog 73 #[v, .int .i64 65535, .func (.func 72) #[] #[]] w fun e w' => e = .returned (.bool true) ∧ Kept NoM w w' := by
  obtain ⟨ta, tcap, rfl, _, _⟩ := h.shape
  have HH := Lib.hid h
  have HS := Lib.hid (stepT_of ht)
  clear h ht
  go_enter Try.func73, Try.ntmps73
  go_wp2_with fail
  go_loopw [11] (fun i wr => ∃ k : Nat, k ≤ t.length ∧ i = .int .i64 k ∧ Hid (Kept NoM w wr)) (fun i _ => t.length - (intOf i).toNat)
  case atStart => exact ⟨0, Nat.zero_le _, rfl, Lib.hid (Kept.refl _ _)⟩
  case round =>
    obtain ⟨k, hk, rfl, hK⟩ := hrel
    by_cases hlt : k < t.length
    · have hki : (k : Int) < t.length := by omega
      obtain ⟨x, hx⟩ := getAt hlt
      obtain ⟨tb, to, e1, _, hc⟩ := ru_at (HH.out.kept hK.out.of_no (fun _ _ x => x)) hx
      subst e1
      have HC := Lib.hid hc
      obtain ⟨hx1, hx2⟩ := HS.out k x hx
      have HPX := Lib.hid hx1
      have hpp := okP_iff.1 hx1
      have HWX := Lib.hid (show inB (65536 - x.pri) 1 65535 = true by unfold inB; rw [decide_eq_true (show (1 : Int) ≤ 65536 - x.pri by omega), decide_eq_true (show 65536 - x.pri ≤ 65535 by omega)]; rfl)
      have KA := Lib.hid ((Kept.refl NoM wr).alloc (.cells (ruC x) 39))
      have HX8 := Lib.hid (blk_new wr (.cells (ruC x) 39))
      by_cases h0 : k = 0
      · have HK0 := Lib.hid (show decide (0 < k) = false from decide_eq_false (by omega))
        clear hx hx1 hx2 hc h0
        go_wp2_with (first
          | (refine wpList_alloc_Z rfl 39 rfl _ (ruZ _) ?_)
          | (refine wpList_store_bign bigRu rfl _ _ rfl _ rfl rfl rfl rfl rfl (ru1 x) ?_)
          | (refine wpList_load_big bigRu rfl _ rfl tb (to + k * 23) (ruC x) rfl HC.out rfl ?_))
        refine wp_region_parH 23 [] [] [] [] [] (fun wx => Kept NoM (wr.alloc (.cells (ruC x) 39)) wx)
              [fun v _ => v = .func (.func 72) #[] #[], fun v _ => v = .agg (ruC x), fun v _ => v = .int .i64 (65536 - x.pri), fun v _ => v = .int .i64 65535, fun v _ => v = .bool true, fun v _ => v = .bool false, fun v _ => v = .bool false, fun v _ => v = .int .i64 k, fun v _ => v = .bool false, fun v _ => v = .bool false, fun v _ => v = undef, fun v _ => v = undef, fun v _ => v = undef, fun v _ => v = undef, fun v _ => v = undef, fun v _ => v = undef, fun v _ => v = undef, fun v _ => v = undef, fun v _ => v = undef, fun v _ => v = undef, fun v _ => v = undef, fun v _ => v = .bool false, fun v _ => v = .bool false] (by kernel_rfl) (by kernel_rfl) (by kernel_rfl) (Kept.refl NoM _).drew (inits_nil) ?_ ?_
        · intro i hi9
          have hst := stab_all (posts := [fun v _ => v = .func (.func 72) #[] #[], fun v _ => v = .agg (ruC x), fun v _ => v = .int .i64 (65536 - x.pri), fun v _ => v = .int .i64 65535, fun v _ => v = .bool true, fun v _ => v = .bool false, fun v _ => v = .bool false, fun v _ => v = .int .i64 k, fun v _ => v = .bool false, fun v _ => v = .bool false, fun v _ => v = undef, fun v _ => v = undef, fun v _ => v = undef, fun v _ => v = undef, fun v _ => v = undef, fun v _ => v = undef, fun v _ => v = undef, fun v _ => v = undef, fun v _ => v = undef, fun v _ => v = undef, fun v _ => v = undef, fun v _ => v = .bool false, fun v _ => v = .bool false])        (stab_cons (stab_const _) (stab_cons (stab_const _) (stab_cons (stab_const _) (stab_cons (stab_const _) (stab_cons (stab_const _) (stab_cons (stab_const _) (stab_cons (stab_const _) (stab_cons (stab_const _) (stab_cons (stab_const _) (stab_cons (stab_const _) (stab_cons (stab_const _) (stab_cons (stab_const _) (stab_cons (stab_const _) (stab_cons (stab_const _) (stab_cons (stab_const _) (stab_cons (stab_const _) (stab_cons (stab_const _) (stab_cons (stab_const _) (stab_cons (stab_const _) (stab_cons (stab_const _) (stab_cons (stab_const _) (stab_cons (stab_const _) (stab_cons (stab_const _) stab_nil)))))))))))))))))))))))
          have hist := init_stab (inits := []) (fun p h => by cases h)
          have HST := Lib.hid hst
          have HIST := Lib.hid hist
          clear hst hist
          rcases (show i = 0 ∨ i = 1 ∨ i = 2 ∨ i = 3 ∨ i = 4 ∨ i = 5 ∨ i = 6 ∨ i = 7 ∨ i = 8 ∨ i = 9 ∨ i = 10 ∨ i = 11 ∨ i = 12 ∨ i = 13 ∨ i = 14 ∨ i = 15 ∨ i = 16 ∨ i = 17 ∨ i = 18 ∨ i = 19 ∨ i = 20 ∨ i = 21 ∨ i = 22 by omega) with rfl | rfl | rfl | rfl | rfl | rfl | rfl | rfl | rfl | rfl | rfl | rfl | rfl | rfl | rfl | rfl | rfl | rfl | rfl | rfl | rfl | rfl | rfl
          · refine asksH_intro ?_; intro o ho a wx hc hout hp hi R hR; cases ho
            refine .inl ⟨wanted_none rfl, ?_⟩
            have e2 : a.tmps[2]? = some (.func (.func 72) #[] #[]) := hout 2 rfl
            go_simp
            exact hR _ _ hc rfl (fun _ _ _ _ _ u h => h) (fun _ _ h => h)
          · refine asksH_intro ?_; intro o ho a wx hc hout hp hi R hR; cases ho
            refine .inl ⟨wanted_none rfl, ?_⟩
            have e8 : a.tmps[8]? = some (.pointer (some ⟨wr.heap.size, 0, none⟩)) := hout 8 rfl
            refine gives_load_big bigRu (.tmp 8) rfl wr.heap.size 0 (ruC x) (by go_simp) (range_blk (hc.blk HX8.out (fun x => x))) rfl ?_
            exact hR _ _ hc rfl (fun _ _ _ _ _ u h => h) (fun _ _ h => h)
          · refine asksH_intro ?_; intro o ho a wx hc hout hp hi R hR; cases ho
            refine .inl ⟨wanted_none rfl, ?_⟩
            have e16 : a.tmps[16]?.getD undef = .func (.func 72) #[] #[] := hp 0 (by omega) rfl
            have e17 : a.tmps[17]?.getD undef = .agg (ruC x) := hp 1 (by omega) rfl
            go_simp
            refine (chkb_ok x wx HPX.out).mono ?_
            rintro e w2 ⟨rfl, q3⟩
            exact ⟨_, rfl, hR _ _ (hc.trans q3) rfl (fun j _ _ _ _ u h => HST.out j u _ _ q3 h) (fun j _ h => HIST.out j _ _ q3 h)⟩
          · refine asksH_intro ?_; intro o ho a wx hc hout hp hi R hR; cases ho
            refine .inl ⟨wanted_none rfl, ?_⟩
            have e1 : a.tmps[1]? = some (.int .i64 65535) := hout 1 rfl
            go_simp
            exact hR _ _ hc rfl (fun _ _ _ _ _ u h => h) (fun _ _ h => h)
          · refine asksH_intro ?_; intro o ho a wx hc hout hp hi R hR; cases ho
            refine .inl ⟨wanted_none rfl, ?_⟩
            have e18 : a.tmps[18]?.getD undef = .int .i64 (65536 - x.pri) := hp 2 (by omega) rfl
            have e19 : a.tmps[19]?.getD undef = .int .i64 65535 := hp 3 (by omega) rfl
            go_simp
            refine (within_ok _ 1 65535 wx).mono ?_
            rw [HWX.out]
            rintro e w2 ⟨rfl, rfl⟩
            exact ⟨_, rfl, hR _ _ hc rfl (fun j _ _ _ _ u h => h) (fun j _ h => h)⟩
          · refine asksH_intro ?_; intro o ho a wx hc hout hp hi R hR; cases ho
            refine .inl ⟨wanted_none rfl, ?_⟩
            have e20 : a.tmps[20]?.getD undef = .bool true := hp 4 (by omega) rfl
            go_simp
            exact hR _ _ hc rfl (fun _ _ _ _ _ u h => h) (fun _ _ h => h)
          · refine asksH_intro ?_; intro o ho a wx hc hout hp hi R hR; cases ho
            refine .inl ⟨wanted_none rfl, ?_⟩
            have e21 : a.tmps[21]?.getD undef = .bool false := hp 5 (by omega) rfl
            go_simp
            exact hR _ _ hc rfl (fun _ _ _ _ _ u h => h) (fun _ _ h => h)
          · refine asksH_intro ?_; intro o ho a wx hc hout hp hi R hR; cases ho
            refine .inl ⟨wanted_some rfl rfl (hp 6 (by omega) rfl), ?_⟩
            have e7 : a.tmps[7]? = some (.int .i64 k) := hout 7 rfl
            go_simp
            exact hR _ _ hc rfl (fun _ _ _ _ _ u h => h) (fun _ _ h => h)
          · refine asksH_intro ?_; intro o ho a wx hc hout hp hi R hR; cases ho
            refine .inl ⟨wanted_some rfl rfl (hp 6 (by omega) rfl), ?_⟩
            have e23 : a.tmps[23]?.getD undef = .int .i64 k := hp 7 (by omega) rfl
            have fk := HK0.out
            go_simp
            exact hR _ _ hc rfl (fun _ _ _ _ _ u h => h) (fun _ _ h => h)
          · refine asksH_intro ?_; intro o ho a wx hc hout hp hi R hR; cases ho
            refine .inl ⟨wanted_some rfl rfl (hp 6 (by omega) rfl), ?_⟩
            have e24 : a.tmps[24]?.getD undef = .bool false := hp 8 (by omega) rfl
            go_simp
            exact hR _ _ hc rfl (fun _ _ _ _ _ u h => h) (fun _ _ h => h)
          · refine asksH_intro ?_; intro o ho a wx hc hout hp hi R hR; cases ho
            refine .inr ⟨wanted_off rfl rfl (hp 9 (by omega) rfl) rfl, ?_⟩
            exact hR _ _ hc rfl (fun _ _ _ _ _ u h => h) (fun _ _ h => h)
          · refine asksH_intro ?_; intro o ho a wx hc hout hp hi R hR; cases ho
            refine .inr ⟨wanted_off rfl rfl (hp 9 (by omega) rfl) rfl, ?_⟩
            exact hR _ _ hc rfl (fun _ _ _ _ _ u h => h) (fun _ _ h => h)
          · refine asksH_intro ?_; intro o ho a wx hc hout hp hi R hR; cases ho
            refine .inr ⟨wanted_off rfl rfl (hp 9 (by omega) rfl) rfl, ?_⟩
            exact hR _ _ hc rfl (fun _ _ _ _ _ u h => h) (fun _ _ h => h)
          · refine asksH_intro ?_; intro o ho a wx hc hout hp hi R hR; cases ho
            refine .inr ⟨wanted_off rfl rfl (hp 9 (by omega) rfl) rfl, ?_⟩
            exact hR _ _ hc rfl (fun _ _ _ _ _ u h => h) (fun _ _ h => h)
          · refine asksH_intro ?_; intro o ho a wx hc hout hp hi R hR; cases ho
            refine .inr ⟨wanted_off rfl rfl (hp 9 (by omega) rfl) rfl, ?_⟩
            exact hR _ _ hc rfl (fun _ _ _ _ _ u h => h) (fun _ _ h => h)
          · refine asksH_intro ?_; intro o ho a wx hc hout hp hi R hR; cases ho
            refine .inr ⟨wanted_off rfl rfl (hp 9 (by omega) rfl) rfl, ?_⟩
            exact hR _ _ hc rfl (fun _ _ _ _ _ u h => h) (fun _ _ h => h)
          · refine asksH_intro ?_; intro o ho a wx hc hout hp hi R hR; cases ho
            refine .inr ⟨wanted_off rfl rfl (hp 9 (by omega) rfl) rfl, ?_⟩
            exact hR _ _ hc rfl (fun _ _ _ _ _ u h => h) (fun _ _ h => h)
          · refine asksH_intro ?_; intro o ho a wx hc hout hp hi R hR; cases ho
            refine .inr ⟨wanted_off rfl rfl (hp 9 (by omega) rfl) rfl, ?_⟩
            exact hR _ _ hc rfl (fun _ _ _ _ _ u h => h) (fun _ _ h => h)
          · refine asksH_intro ?_; intro o ho a wx hc hout hp hi R hR; cases ho
            refine .inr ⟨wanted_off rfl rfl (hp 9 (by omega) rfl) rfl, ?_⟩
            exact hR _ _ hc rfl (fun _ _ _ _ _ u h => h) (fun _ _ h => h)
          · refine asksH_intro ?_; intro o ho a wx hc hout hp hi R hR; cases ho
            refine .inr ⟨wanted_off rfl rfl (hp 9 (by omega) rfl) rfl, ?_⟩
            exact hR _ _ hc rfl (fun _ _ _ _ _ u h => h) (fun _ _ h => h)
          · refine asksH_intro ?_; intro o ho a wx hc hout hp hi R hR; cases ho
            refine .inr ⟨wanted_off rfl rfl (hp 9 (by omega) rfl) rfl, ?_⟩
            exact hR _ _ hc rfl (fun _ _ _ _ _ u h => h) (fun _ _ h => h)
          · refine asksH_intro ?_; intro o ho a wx hc hout hp hi R hR; cases ho
            refine .inl ⟨wanted_some rfl rfl (hp 6 (by omega) rfl), ?_⟩
            have e25 : a.tmps[25]?.getD undef = .bool false := hp 9 (by omega) rfl
            have e36 : a.tmps[36]?.getD undef = undef := hp 20 (by omega) rfl
            go_simp
            exact hR _ _ hc rfl (fun _ _ _ _ _ u h => h) (fun _ _ h => h)
          · refine asksH_intro ?_; intro o ho a wx hc hout hp hi R hR; cases ho
            refine .inl ⟨wanted_none rfl, ?_⟩
            have e22 : a.tmps[22]?.getD undef = .bool false := hp 6 (by omega) rfl
            have e37 : a.tmps[37]?.getD undef = .bool false := hp 21 (by omega) rfl
            go_simp
            exact hR _ _ hc rfl (fun _ _ _ _ _ u h => h) (fun _ _ h => h)
        · intro vs w' hc hp
          have e16 : vs 0 = .func (.func 72) #[] #[] := hp 0 (by omega) rfl
          have e17 : vs 1 = .agg (ruC x) := hp 1 (by omega) rfl
          have e18 : vs 2 = .int .i64 (65536 - x.pri) := hp 2 (by omega) rfl
          have e19 : vs 3 = .int .i64 65535 := hp 3 (by omega) rfl
          have e20 : vs 4 = .bool true := hp 4 (by omega) rfl
          have e21 : vs 5 = .bool false := hp 5 (by omega) rfl
          have e22 : vs 6 = .bool false := hp 6 (by omega) rfl
          have e23 : vs 7 = .int .i64 k := hp 7 (by omega) rfl
          have e24 : vs 8 = .bool false := hp 8 (by omega) rfl
          have e25 : vs 9 = .bool false := hp 9 (by omega) rfl
          have e26 : vs 10 = undef := hp 10 (by omega) rfl
          have e27 : vs 11 = undef := hp 11 (by omega) rfl
          have e28 : vs 12 = undef := hp 12 (by omega) rfl
          have e29 : vs 13 = undef := hp 13 (by omega) rfl
          have e30 : vs 14 = undef := hp 14 (by omega) rfl
          have e31 : vs 15 = undef := hp 15 (by omega) rfl
          have e32 : vs 16 = undef := hp 16 (by omega) rfl
          have e33 : vs 17 = undef := hp 17 (by omega) rfl
          have e34 : vs 18 = undef := hp 18 (by omega) rfl
          have e35 : vs 19 = undef := hp 19 (by omega) rfl
          have e36 : vs 20 = undef := hp 20 (by omega) rfl
          have e37 : vs 21 = .bool false := hp 21 (by omega) rfl
          have e38 : vs 22 = .bool false := hp 22 (by omega) rfl
          simp only [List.take_succ_cons, List.take_zero, List.drop_succ_cons, List.drop_zero, putAll, Act.put, List.setIfInBounds_toArray, List.set_cons_zero, List.set_cons_succ, Nat.reduceAdd, e16, e17, e18, e19, e20, e21, e22, e23, e24, e25, e26, e27, e28, e29, e30, e31, e32, e33, e34, e35, e36, e37, e38]
          change wpList _ _ _ _ _ _
          have HC9 := Lib.hid hc
          clear hc hp e16 e17 e18 e19 e20 e21 e22 e23 e24 e25 e26 e27 e28 e29 e30 e31 e32 e33 e34 e35 e36 e37
          generalize w' = we at *
          go_wp2_with fail
          go_roundw
          case rel => exact ⟨k + 1, by omega, by go_num, Lib.hid (hK.out.trans (KA.out.trans HC9.out))⟩
          case measure => simp [intOf]; omega
      · have HK0 := Lib.hid (show decide (0 < k) = true from decide_eq_true (by omega))
        obtain ⟨y, hy⟩ := getAt (xs := t) (k := k - 1) (by omega)
        obtain ⟨b', off', e2, _, hc2⟩ := ru_at (HH.out.kept (hK.out.trans KA.out).of_no (fun _ _ x => x)) hy
        simp only [Option.some.injEq, Addr.mk.injEq, and_true] at e2
        obtain ⟨rfl, rfl⟩ := e2
        have HYC := Lib.hid hc2
        have hlt2 := hx2 y (by omega) hy
        have HPY := Lib.hid (HS.out (k - 1) y hy).1
        have HGE := Lib.hid (show decide (y.pri ≤ x.pri) = false from decide_eq_false (by omega))
        have HSUB : Hid (IntKind.i64.wrap ((k : Int) - 1) = ((k - 1 : Nat) : Int)) := Lib.hid (by rw [IntWalk.i64_in _ (by omega)]; omega)
        have HLTI := Lib.hid (show ((k - 1 : Nat) : Int) < t.length by omega)
        have hk1 : k - 1 < t.length := by omega
        clear hx hx1 hx2 hc hc2 hy hlt2
        go_wp2_with (first
          | (refine wpList_alloc_Z rfl 39 rfl _ (ruZ _) ?_)
          | (refine wpList_store_bign bigRu rfl _ _ rfl _ rfl rfl rfl rfl rfl (ru1 x) ?_)
          | (refine wpList_load_big bigRu rfl _ rfl tb (to + k * 23) (ruC x) rfl HC.out rfl ?_))
        refine wp_region_parH 23 [] [] [] [] [] (fun wx => Kept NoM (wr.alloc (.cells (ruC x) 39)) wx)
              [fun v _ => v = .func (.func 72) #[] #[], fun v _ => v = .agg (ruC x), fun v _ => v = .int .i64 (65536 - x.pri), fun v _ => v = .int .i64 65535, fun v _ => v = .bool true, fun v _ => v = .bool false, fun v _ => v = .bool false, fun v _ => v = .int .i64 k, fun v _ => v = .bool true, fun v _ => v = .bool true, fun v _ => v = .func (.func 72) #[] #[], fun v _ => v = .slice (some ⟨tb, to, none⟩) t.length tcap, fun v _ => v = .int .i64 k, fun v _ => v = .int .i64 (k - 1 : Nat), fun v _ => v = .pointer (some ⟨tb, to + (k - 1) * 23, none⟩), fun v _ => v = .agg (ruC y), fun v _ => v = .int .i64 (65536 - y.pri), fun v _ => v = .func (.func 72) #[] #[], fun v _ => v = .agg (ruC x), fun v _ => v = .int .i64 (65536 - x.pri), fun v _ => v = .bool false, fun v _ => v = .bool false, fun v _ => v = .bool false] (by kernel_rfl) (by kernel_rfl) (by kernel_rfl) (Kept.refl NoM _).drew (inits_nil) ?_ ?_
        · intro i hi9
          have hst := stab_all (posts := [fun v _ => v = .func (.func 72) #[] #[], fun v _ => v = .agg (ruC x), fun v _ => v = .int .i64 (65536 - x.pri), fun v _ => v = .int .i64 65535, fun v _ => v = .bool true, fun v _ => v = .bool false, fun v _ => v = .bool false, fun v _ => v = .int .i64 k, fun v _ => v = .bool true, fun v _ => v = .bool true, fun v _ => v = .func (.func 72) #[] #[], fun v _ => v = .slice (some ⟨tb, to, none⟩) t.length tcap, fun v _ => v = .int .i64 k, fun v _ => v = .int .i64 (k - 1 : Nat), fun v _ => v = .pointer (some ⟨tb, to + (k - 1) * 23, none⟩), fun v _ => v = .agg (ruC y), fun v _ => v = .int .i64 (65536 - y.pri), fun v _ => v = .func (.func 72) #[] #[], fun v _ => v = .agg (ruC x), fun v _ => v = .int .i64 (65536 - x.pri), fun v _ => v = .bool false, fun v _ => v = .bool false, fun v _ => v = .bool false])        (stab_cons (stab_const _) (stab_cons (stab_const _) (stab_cons (stab_const _) (stab_cons (stab_const _) (stab_cons (stab_const _) (stab_cons (stab_const _) (stab_cons (stab_const _) (stab_cons (stab_const _) (stab_cons (stab_const _) (stab_cons (stab_const _) (stab_cons (stab_const _) (stab_cons (stab_const _) (stab_cons (stab_const _) (stab_cons (stab_const _) (stab_cons (stab_const _) (stab_cons (stab_const _) (stab_cons (stab_const _) (stab_cons (stab_const _) (stab_cons (stab_const _) (stab_cons (stab_const _) (stab_cons (stab_const _) (stab_cons (stab_const _) (stab_cons (stab_const _) stab_nil)))))))))))))))))))))))
          have hist := init_stab (inits := []) (fun p h => by cases h)
          have HST := Lib.hid hst
          have HIST := Lib.hid hist
          clear hst hist
          rcases (show i = 0 ∨ i = 1 ∨ i = 2 ∨ i = 3 ∨ i = 4 ∨ i = 5 ∨ i = 6 ∨ i = 7 ∨ i = 8 ∨ i = 9 ∨ i = 10 ∨ i = 11 ∨ i = 12 ∨ i = 13 ∨ i = 14 ∨ i = 15 ∨ i = 16 ∨ i = 17 ∨ i = 18 ∨ i = 19 ∨ i = 20 ∨ i = 21 ∨ i = 22 by omega) with rfl | rfl | rfl | rfl | rfl | rfl | rfl | rfl | rfl | rfl | rfl | rfl | rfl | rfl | rfl | rfl | rfl | rfl | rfl | rfl | rfl | rfl | rfl
          · refine asksH_intro ?_; intro o ho a wx hc hout hp hi R hR; cases ho
            refine .inl ⟨wanted_none rfl, ?_⟩
            have e2 : a.tmps[2]? = some (.func (.func 72) #[] #[]) := hout 2 rfl
            go_simp
            exact hR _ _ hc rfl (fun _ _ _ _ _ u h => h) (fun _ _ h => h)
          · refine asksH_intro ?_; intro o ho a wx hc hout hp hi R hR; cases ho
            refine .inl ⟨wanted_none rfl, ?_⟩
            have e8 : a.tmps[8]? = some (.pointer (some ⟨wr.heap.size, 0, none⟩)) := hout 8 rfl
            refine gives_load_big bigRu (.tmp 8) rfl wr.heap.size 0 (ruC x) (by go_simp) (range_blk (hc.blk HX8.out (fun x => x))) rfl ?_
            exact hR _ _ hc rfl (fun _ _ _ _ _ u h => h) (fun _ _ h => h)
          · refine asksH_intro ?_; intro o ho a wx hc hout hp hi R hR; cases ho
            refine .inl ⟨wanted_none rfl, ?_⟩
            have e16 : a.tmps[16]?.getD undef = .func (.func 72) #[] #[] := hp 0 (by omega) rfl
            have e17 : a.tmps[17]?.getD undef = .agg (ruC x) := hp 1 (by omega) rfl
            go_simp
            refine (chkb_ok x wx HPX.out).mono ?_
            rintro e w2 ⟨rfl, q3⟩
            exact ⟨_, rfl, hR _ _ (hc.trans q3) rfl (fun j _ _ _ _ u h => HST.out j u _ _ q3 h) (fun j _ h => HIST.out j _ _ q3 h)⟩
          · refine asksH_intro ?_; intro o ho a wx hc hout hp hi R hR; cases ho
            refine .inl ⟨wanted_none rfl, ?_⟩
            have e1 : a.tmps[1]? = some (.int .i64 65535) := hout 1 rfl
            go_simp
            exact hR _ _ hc rfl (fun _ _ _ _ _ u h => h) (fun _ _ h => h)
          · refine asksH_intro ?_; intro o ho a wx hc hout hp hi R hR; cases ho
            refine .inl ⟨wanted_none rfl, ?_⟩
            have e18 : a.tmps[18]?.getD undef = .int .i64 (65536 - x.pri) := hp 2 (by omega) rfl
            have e19 : a.tmps[19]?.getD undef = .int .i64 65535 := hp 3 (by omega) rfl
            go_simp
            refine (within_ok _ 1 65535 wx).mono ?_
            rw [HWX.out]
            rintro e w2 ⟨rfl, rfl⟩
            exact ⟨_, rfl, hR _ _ hc rfl (fun j _ _ _ _ u h => h) (fun j _ h => h)⟩
          · refine asksH_intro ?_; intro o ho a wx hc hout hp hi R hR; cases ho
            refine .inl ⟨wanted_none rfl, ?_⟩
            have e20 : a.tmps[20]?.getD undef = .bool true := hp 4 (by omega) rfl
            go_simp
            exact hR _ _ hc rfl (fun _ _ _ _ _ u h => h) (fun _ _ h => h)
          · refine asksH_intro ?_; intro o ho a wx hc hout hp hi R hR; cases ho
            refine .inl ⟨wanted_none rfl, ?_⟩
            have e21 : a.tmps[21]?.getD undef = .bool false := hp 5 (by omega) rfl
            go_simp
            exact hR _ _ hc rfl (fun _ _ _ _ _ u h => h) (fun _ _ h => h)
          · refine asksH_intro ?_; intro o ho a wx hc hout hp hi R hR; cases ho
            refine .inl ⟨wanted_some rfl rfl (hp 6 (by omega) rfl), ?_⟩
            have e7 : a.tmps[7]? = some (.int .i64 k) := hout 7 rfl
            go_simp
            exact hR _ _ hc rfl (fun _ _ _ _ _ u h => h) (fun _ _ h => h)
          · refine asksH_intro ?_; intro o ho a wx hc hout hp hi R hR; cases ho
            refine .inl ⟨wanted_some rfl rfl (hp 6 (by omega) rfl), ?_⟩
            have e23 : a.tmps[23]?.getD undef = .int .i64 k := hp 7 (by omega) rfl
            have fk := HK0.out
            go_simp
            exact hR _ _ hc rfl (fun _ _ _ _ _ u h => h) (fun _ _ h => h)
          · refine asksH_intro ?_; intro o ho a wx hc hout hp hi R hR; cases ho
            refine .inl ⟨wanted_some rfl rfl (hp 6 (by omega) rfl), ?_⟩
            have e24 : a.tmps[24]?.getD undef = .bool true := hp 8 (by omega) rfl
            go_simp
            exact hR _ _ hc rfl (fun _ _ _ _ _ u h => h) (fun _ _ h => h)
          · refine asksH_intro ?_; intro o ho a wx hc hout hp hi R hR; cases ho
            refine .inl ⟨wanted_some rfl rfl (hp 9 (by omega) rfl), ?_⟩
            have e2 : a.tmps[2]? = some (.func (.func 72) #[] #[]) := hout 2 rfl
            go_simp
            exact hR _ _ hc rfl (fun _ _ _ _ _ u h => h) (fun _ _ h => h)
          · refine asksH_intro ?_; intro o ho a wx hc hout hp hi R hR; cases ho
            refine .inl ⟨wanted_some rfl rfl (hp 9 (by omega) rfl), ?_⟩
            have e0 : a.tmps[0]? = some (.slice (some ⟨tb, to, none⟩) t.length tcap) := hout 0 rfl
            go_simp
            exact hR _ _ hc rfl (fun _ _ _ _ _ u h => h) (fun _ _ h => h)
          · refine asksH_intro ?_; intro o ho a wx hc hout hp hi R hR; cases ho
            refine .inl ⟨wanted_some rfl rfl (hp 9 (by omega) rfl), ?_⟩
            have e7 : a.tmps[7]? = some (.int .i64 k) := hout 7 rfl
            go_simp
            exact hR _ _ hc rfl (fun _ _ _ _ _ u h => h) (fun _ _ h => h)
          · refine asksH_intro ?_; intro o ho a wx hc hout hp hi R hR; cases ho
            refine .inl ⟨wanted_some rfl rfl (hp 9 (by omega) rfl), ?_⟩
            have e28 : a.tmps[28]?.getD undef = .int .i64 k := hp 12 (by omega) rfl
            have fs := HSUB.out
            go_simp
            exact hR _ _ hc rfl (fun _ _ _ _ _ u h => h) (fun _ _ h => h)
          · refine asksH_intro ?_; intro o ho a wx hc hout hp hi R hR; cases ho
            refine .inl ⟨wanted_some rfl rfl (hp 9 (by omega) rfl), ?_⟩
            have e27 : a.tmps[27]?.getD undef = .slice (some ⟨tb, to, none⟩) t.length tcap := hp 11 (by omega) rfl
            have e29 : a.tmps[29]?.getD undef = .int .i64 (k - 1 : Nat) := hp 13 (by omega) rfl
            have fa := HLTI.out
            have fb := hk1
            go_simp
            exact hR _ _ hc rfl (fun _ _ _ _ _ u h => h) (fun _ _ h => h)
          · refine asksH_intro ?_; intro o ho a wx hc hout hp hi R hR; cases ho
            refine .inl ⟨wanted_some rfl rfl (hp 9 (by omega) rfl), ?_⟩
            have e30 : a.tmps[30]?.getD undef = .pointer (some ⟨tb, to + (k - 1) * 23, none⟩) := hp 14 (by omega) rfl
            refine gives_load_big bigRu (.tmp 30) rfl tb (to + (k - 1) * 23) (ruC y) (by go_simp) (rangeAt_kept HYC.out hc (fun x => x)) rfl ?_
            exact hR _ _ hc rfl (fun _ _ _ _ _ u h => h) (fun _ _ h => h)
          · refine asksH_intro ?_; intro o ho a wx hc hout hp hi R hR; cases ho
            refine .inl ⟨wanted_some rfl rfl (hp 9 (by omega) rfl), ?_⟩
            have e26 : a.tmps[26]?.getD undef = .func (.func 72) #[] #[] := hp 10 (by omega) rfl
            have e31 : a.tmps[31]?.getD undef = .agg (ruC y) := hp 15 (by omega) rfl
            go_simp
            refine (chkb_ok y wx HPY.out).mono ?_
            rintro e w2 ⟨rfl, q3⟩
            exact ⟨_, rfl, hR _ _ (hc.trans q3) rfl (fun j _ _ _ _ u h => HST.out j u _ _ q3 h) (fun j _ h => HIST.out j _ _ q3 h)⟩
          · refine asksH_intro ?_; intro o ho a wx hc hout hp hi R hR; cases ho
            refine .inl ⟨wanted_some rfl rfl (hp 9 (by omega) rfl), ?_⟩
            have e2 : a.tmps[2]? = some (.func (.func 72) #[] #[]) := hout 2 rfl
            go_simp
            exact hR _ _ hc rfl (fun _ _ _ _ _ u h => h) (fun _ _ h => h)
          · refine asksH_intro ?_; intro o ho a wx hc hout hp hi R hR; cases ho
            refine .inl ⟨wanted_some rfl rfl (hp 9 (by omega) rfl), ?_⟩
            have e8 : a.tmps[8]? = some (.pointer (some ⟨wr.heap.size, 0, none⟩)) := hout 8 rfl
            refine gives_load_big bigRu (.tmp 8) rfl wr.heap.size 0 (ruC x) (by go_simp) (range_blk (hc.blk HX8.out (fun x => x))) rfl ?_
            exact hR _ _ hc rfl (fun _ _ _ _ _ u h => h) (fun _ _ h => h)
          · refine asksH_intro ?_; intro o ho a wx hc hout hp hi R hR; cases ho
            refine .inl ⟨wanted_some rfl rfl (hp 9 (by omega) rfl), ?_⟩
            have e33 : a.tmps[33]?.getD undef = .func (.func 72) #[] #[] := hp 17 (by omega) rfl
            have e34 : a.tmps[34]?.getD undef = .agg (ruC x) := hp 18 (by omega) rfl
            go_simp
            refine (chkb_ok x wx HPX.out).mono ?_
            rintro e w2 ⟨rfl, q3⟩
            exact ⟨_, rfl, hR _ _ (hc.trans q3) rfl (fun j _ _ _ _ u h => HST.out j u _ _ q3 h) (fun j _ h => HIST.out j _ _ q3 h)⟩
          · refine asksH_intro ?_; intro o ho a wx hc hout hp hi R hR; cases ho
            refine .inl ⟨wanted_some rfl rfl (hp 9 (by omega) rfl), ?_⟩
            have e32 : a.tmps[32]?.getD undef = .int .i64 (65536 - y.pri) := hp 16 (by omega) rfl
            have e35 : a.tmps[35]?.getD undef = .int .i64 (65536 - x.pri) := hp 19 (by omega) rfl
            have fg := HGE.out
            go_simp
            exact hR _ _ hc rfl (fun _ _ _ _ _ u h => h) (fun _ _ h => h)
          · refine asksH_intro ?_; intro o ho a wx hc hout hp hi R hR; cases ho
            refine .inl ⟨wanted_some rfl rfl (hp 6 (by omega) rfl), ?_⟩
            have e25 : a.tmps[25]?.getD undef = .bool true := hp 9 (by omega) rfl
            have e36 : a.tmps[36]?.getD undef = .bool false := hp 20 (by omega) rfl
            go_simp
            exact hR _ _ hc rfl (fun _ _ _ _ _ u h => h) (fun _ _ h => h)
          · refine asksH_intro ?_; intro o ho a wx hc hout hp hi R hR; cases ho
            refine .inl ⟨wanted_none rfl, ?_⟩
            have e22 : a.tmps[22]?.getD undef = .bool false := hp 6 (by omega) rfl
            have e37 : a.tmps[37]?.getD undef = .bool false := hp 21 (by omega) rfl
            go_simp
            exact hR _ _ hc rfl (fun _ _ _ _ _ u h => h) (fun _ _ h => h)
        · intro vs w' hc hp
          have e16 : vs 0 = .func (.func 72) #[] #[] := hp 0 (by omega) rfl
          have e17 : vs 1 = .agg (ruC x) := hp 1 (by omega) rfl
          have e18 : vs 2 = .int .i64 (65536 - x.pri) := hp 2 (by omega) rfl
          have e19 : vs 3 = .int .i64 65535 := hp 3 (by omega) rfl
          have e20 : vs 4 = .bool true := hp 4 (by omega) rfl
          have e21 : vs 5 = .bool false := hp 5 (by omega) rfl
          have e22 : vs 6 = .bool false := hp 6 (by omega) rfl
          have e23 : vs 7 = .int .i64 k := hp 7 (by omega) rfl
          have e24 : vs 8 = .bool true := hp 8 (by omega) rfl
          have e25 : vs 9 = .bool true := hp 9 (by omega) rfl
          have e26 : vs 10 = .func (.func 72) #[] #[] := hp 10 (by omega) rfl
          have e27 : vs 11 = .slice (some ⟨tb, to, none⟩) t.length tcap := hp 11 (by omega) rfl
          have e28 : vs 12 = .int .i64 k := hp 12 (by omega) rfl
          have e29 : vs 13 = .int .i64 (k - 1 : Nat) := hp 13 (by omega) rfl
          have e30 : vs 14 = .pointer (some ⟨tb, to + (k - 1) * 23, none⟩) := hp 14 (by omega) rfl
          have e31 : vs 15 = .agg (ruC y) := hp 15 (by omega) rfl
          have e32 : vs 16 = .int .i64 (65536 - y.pri) := hp 16 (by omega) rfl
          have e33 : vs 17 = .func (.func 72) #[] #[] := hp 17 (by omega) rfl
          have e34 : vs 18 = .agg (ruC x) := hp 18 (by omega) rfl
          have e35 : vs 19 = .int .i64 (65536 - x.pri) := hp 19 (by omega) rfl
          have e36 : vs 20 = .bool false := hp 20 (by omega) rfl
          have e37 : vs 21 = .bool false := hp 21 (by omega) rfl
          have e38 : vs 22 = .bool false := hp 22 (by omega) rfl
          simp only [List.take_succ_cons, List.take_zero, List.drop_succ_cons, List.drop_zero, putAll, Act.put, List.setIfInBounds_toArray, List.set_cons_zero, List.set_cons_succ, Nat.reduceAdd, e16, e17, e18, e19, e20, e21, e22, e23, e24, e25, e26, e27, e28, e29, e30, e31, e32, e33, e34, e35, e36, e37, e38]
          change wpList _ _ _ _ _ _
          have HC9 := Lib.hid hc
          clear hc hp e16 e17 e18 e19 e20 e21 e22 e23 e24 e25 e26 e27 e28 e29 e30 e31 e32 e33 e34 e35 e36 e37
          generalize w' = we at *
          go_wp2_with fail
          go_roundw
          case rel => exact ⟨k + 1, by omega, by go_num, Lib.hid (hK.out.trans (KA.out.trans HC9.out))⟩
          case measure => simp [intOf]; omega
    · obtain rfl : k = t.length := by omega
      have f1 := decide_eq_false (show ¬ ((t.length : Nat) : Int) < t.length by omega)
      have f2 := decide_eq_false (show ¬ t.length < t.length by omega)
      go_wp2_with fail
      go_ret
      exact ⟨rfl, hK.out⟩
theorem check_ok (v : Value) (d : Dev) (M : Nat → Prop) (w : World) (h : DevV w M v d) (R : RD d) (F : Few d) (hq : d.queue = []) : Calls Try.prog 40 #[v] w fun e w' => e = .returned (.int .i64 0) ∧ Kept NoM w w' := by
  obtain ⟨ta, tc, qa, qc, da, dc, la, lc, rfl, h⟩ := h
  have K0 := Lib.hid ((Kept.refl NoM w).alloc (.cells (devC d ta tc qa qc da dc la lc) 27))
  have HB := Lib.hid (blk_new w (.cells (devC d ta tc qa qc da dc la lc) 27))
  have y0 := cell_blk HB.out 0 _ dv0
  have y1 := cell_blk HB.out 1 _ dv1
  have y2 := cell_blk HB.out 2 _ dv2
  have y3 := cell_blk HB.out 3 _ dv3
  have y4 := cell_blk HB.out 4 _ dv4
  have y5 := cell_blk HB.out 5 _ dv5
  have hq0 : d.queue.length = 0 := by rw [hq]; rfl
  rw [hq0] at y3
  have W1 : Hid (∀ wx, Calls Try.prog 70 #[.int .i64 d.room, .int .i64 0, .int .i64 4000] wx fun e w' => e = .returned (.bool true) ∧ wx = w') := Lib.hid (fun wx => by have := within_ok d.room 0 4000 wx; rwa [show inB d.room 0 4000 = true by have := R.room; unfold inB; rw [decide_eq_true this.1, decide_eq_true this.2]; rfl] at this)
  have W2 : Hid (∀ wx, Calls Try.prog 70 #[.int .i64 d.ep, .int .i64 0, .int .i64 1073741824] wx fun e w' => e = .returned (.bool true) ∧ wx = w') := Lib.hid (fun wx => by have := within_ok d.ep 0 1073741824 wx; rwa [show inB d.ep 0 1073741824 = true by have := R.ep; unfold inB; rw [decide_eq_true this.1, decide_eq_true this.2]; rfl] at this)
  have RT1 := Lib.hid (risr_ok _ d.table M d.room _ (h.rt.kept K0.out.of_no (fun _ _ x => x)) (by have := F.t; omega) R.tab)
  have RI1 : Hid (∀ wx, Kept NoM w wx → Calls Try.prog 74 #[.slice da d.done.length dc, .int .i64 1073741824, .func (.func 71) #[] #[]] wx fun e w' => e = .returned (.bool true) ∧ wx = w') := Lib.hid (fun wx k => risi_ok _ d.done M wx (h.rd.kept k.of_no (fun _ _ x => x)) (by have := F.dn; omega) R.done)
  have RI2 : Hid (∀ wx, Kept NoM w wx → Calls Try.prog 74 #[.slice la d.lost.length lc, .int .i64 1073741824, .func (.func 71) #[] #[]] wx fun e w' => e = .returned (.bool true) ∧ wx = w') := Lib.hid (fun wx k => risi_ok _ d.lost M wx (h.rl.kept k.of_no (fun _ _ x => x)) (by have := F.l; omega) R.lost)
  have f1 : decide (d.room < d.table.length) = false := decide_eq_false (by have := R.tab.len; omega)
  clear h R F hq
  go_enter Try.func40, Try.ntmps40
  go_wp2_with (first
    | (go_at_call 70; (with_reducible refine (W1.out _).mono ?_); rintro e w2 ⟨rfl, rfl⟩)
    | (go_at_call 70; (with_reducible refine (W2.out _).mono ?_); rintro e w2 ⟨rfl, rfl⟩)
    | (go_at_call 73; refine RT1.out.mono ?_; rintro e w1 ⟨rfl, k1⟩; have K1 := Lib.hid (K0.out.trans k1); have HB1 := Lib.hid (k1.blk HB.out (fun x => x)); have x4 := cell_blk HB1.out 4 _ dv4; have x5 := cell_blk HB1.out 5 _ dv5; have x3 := cell_blk HB1.out 3 _ dv3; rw [hq0] at x3; clear k1)
    | (go_at_call 74; (with_reducible refine (RI1.out _ K1.out).mono ?_); rintro e w2 ⟨rfl, rfl⟩)
    | (go_at_call 74; (with_reducible refine (RI2.out _ K1.out).mono ?_); rintro e w2 ⟨rfl, rfl⟩))
  go_loopw [55] (fun i wr => i = .int .i64 0 ∧ wr = w1) (fun _ _ => 0)
  case atStart => exact ⟨rfl, rfl⟩
  case round =>
    obtain ⟨rfl, rfl⟩ := hrel
    go_wp2_with fail
    go_ret
    exact ⟨rfl, K1.out⟩
end Go.Proofs.Ytghgegghlefclaa

