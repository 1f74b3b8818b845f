/- Walks: Replace. -/
import Derived.Test.YtjcmnobfdidnkaaKJ12
import Derived.Test.YtjcmnobfdidnkaaKD0
set_option linter.unusedVariables false
set_option linter.unusedSimpArgs false
set_option linter.unusedSectionVars false
namespace Go.Proofs.Ytjcmnobfdidnkaa
open Go.RowKit
set_option maxHeartbeats 4000000
set_option maxRecDepth 4000
section
variable {J D G B : Nat} {d : Dk} {h : Hd} {recs : List Pg} {cl : Bool}
theorem replace_closed (v : Value) (w : World) (js : JS w J D G B d h recs cl) (hcl : cl = true) :
    Calls Try.prog 29 #[.pointer (some ⟨J, 0, none⟩), v] w fun e w' => e = .returned (.int .i64 13) ∧ Kept NoM w w' := by
  subst hcl
  obtain ⟨a0, cap0, c0, c1, c2, c3, c4, c5, c6, c7, hr⟩ := js.cells
  clear js hr
  go_enter Try.func29, Try.ntmps29
  go_wp2_with fail
  go_ret
  exact ⟨rfl, Kept.refl _ _⟩
theorem longL_at {l : List Pg} {k : Nat} {x : Pg} (hx : l[k]? = some x) (h : 8000 < x.length) : longL l = true := by
  unfold longL
  rw [List.any_eq_true]
  exact ⟨x, List.mem_of_getElem? hx, decide_eq_true h⟩
theorem longL_no {l : List Pg} (h : ∀ (i : Nat) (x : Pg), l[i]? = some x → x.length ≤ 8000) : longL l = false := by
  unfold longL
  rw [List.any_eq_false]
  intro x hx
  obtain ⟨i, hi⟩ := List.mem_iff_getElem?.1 hx
  simpa using h i x hi
theorem replace_open (v : Value) (l : List Pg) (h2 : 2 ≤ d.n) (hbk : h.bank ≤ 1) (hsq : h.seq < 900000000000) (hll : l.length ≤ 1000000) (hsl : (streamS l).length ≤ 100000000) (w : World) (js : JS w J D G B d h recs cl) (hcl : cl = false) (hv : RdS w NoM 1 EStr v l) :
    Calls Try.prog 29 #[.pointer (some ⟨J, 0, none⟩), v] w fun e w' => e = .returned (.int .i64 ((Jn.mk d h recs cl).repE l)) ∧
      JS w' J D G B ((Jn.mk d h recs cl).rep l).d ((Jn.mk d h recs cl).rep l).h ((Jn.mk d h recs cl).rep l).recs ((Jn.mk d h recs cl).rep l).cl ∧ Kept (InJ J D G B) w w' := by
  subst hcl
  have hjc1 : d.jcap ≤ 1000000 := by have := js.p.n_hi; unfold Dk.jcap Dk.jp; omega
  have HINJ : Hid (∀ wx, Kept NoM w wx → ∀ i, InJ J D G B i → i < wx.heap.size) := Lib.hid (fun wx k i hi => Nat.lt_of_lt_of_le (js.lt i hi) k.size)
  obtain ⟨a0, cap0, c0, c1, c2, c3, c4, c5, c6, c7, hr⟩ := js.cells
  obtain ⟨va, vcap, rfl, hvc, hvm⟩ := hv.shape
  have HV := Lib.hid hv
  have HS := Lib.hid js
  have SC : Hid (∀ w', Kept NoM w w' → w'.cell? ⟨J, 0, none⟩ = some (.pointer (some ⟨D, 0, none⟩)) ∧ w'.cell? ⟨J, 1, none⟩ = some (.int .i64 h.seq) ∧ w'.cell? ⟨J, 2, none⟩ = some (.int .i64 h.bank)) :=
    Lib.hid (fun w' k => ⟨k.cell c0 (fun x => x), k.cell c1 (fun x => x), k.cell c2 (fun x => x)⟩)
  have CP : Hid (∀ wx, Kept NoM w wx → Calls Try.prog 42 #[.pointer (some ⟨J, 0, none⟩)] wx fun e w' => e = .returned (.int .i64 d.jcap) ∧ wx = w') := Lib.hid (fun wx k => cap_ok wx (js.kept0 k) h2)
  have ST : Hid (∀ wx, Kept NoM w wx → Calls Try.prog 43 #[.slice va l.length vcap] wx fun e w' => e = .returned (.string ⟨(streamS l).toArray⟩) ∧ Kept NoM w w') := Lib.hid (fun wx k => (stream_ok _ l wx (HV.out.kept k (fun _ _ x => x)) (by omega) hsl).mono fun e w' ⟨h1, h2⟩ => ⟨h1, k.trans h2⟩)
  have E0 : Hid ((Jn.mk d h recs false).rep l = Jn.mk d h recs false ∨ True) := Lib.hid (.inr trivial)
  have L1 : Hid (longL l = true → (Jn.mk d h recs false).repE l = 2 ∧ (Jn.mk d h recs false).rep l = Jn.mk d h recs false) := Lib.hid (fun hh => by unfold Jn.repE Jn.rep; simp [hh])
  have L2 : Hid (longL l = false → d.jcap < (streamS l).length → (Jn.mk d h recs false).repE l = 12 ∧ (Jn.mk d h recs false).rep l = Jn.mk d h recs false) := Lib.hid (fun hh h9 => by unfold Jn.repE Jn.rep; simp [hh, h9])
  have L3 : Hid (longL l = false → ¬ d.jcap < (streamS l).length → (Jn.mk d h recs false).repE l = (if jkeepF d h (repHd h l) 0 (streamS l) then 13 else 0) ∧ (Jn.mk d h recs false).rep l = (Jn.mk d h recs false).keep (repHd h l) 0 (streamS l) l) := Lib.hid (fun hh h9 => by unfold Jn.repE Jn.rep; simp [hh, h9])
  clear js hr hv c0 c1 c2 c3 c4 c5 c6 E0
  go_enter Try.func29, Try.ntmps29
  go_wp2_with fail
  clear c7
  go_loopw [15] (fun i wr => ∃ k : Nat, k ≤ l.length ∧ i = .int .i64 k ∧ (∀ (i : Nat) (x : Pg), i < k → l[i]? = some x → x.length ≤ 8000) ∧ Kept NoM w wr) (fun i _ => l.length - (intOf i).toNat)
  case atStart => exact ⟨0, Nat.zero_le _, rfl, fun i x hi => absurd hi (Nat.not_lt_zero _), Kept.refl _ _⟩
  case round =>
    obtain ⟨k, hk, rfl, hS, hK⟩ := hrel
    have HH := Lib.hid hS
    have HK := Lib.hid hK
    clear hS hK
    by_cases hlt : k < l.length
    · have hki : (k : Int) < l.length := by omega
      obtain ⟨x, hx⟩ := getAt hlt
      obtain ⟨b, off, e1, _, cs, rfl, _, hc⟩ := (HV.out.kept HK.out (fun _ _ x => x)).at hx
      subst e1
      have x0 := hc 0 _ rfl
      simp only [Nat.mul_one, Nat.add_zero] at x0
      unfold strV at x0
      have hxz : (⟨x.toArray⟩ : ByteArray).size = x.length := by simp [ByteArray.size]
      have HX := Lib.hid hx
      clear hc hx
      by_cases hlong : 8000 < x.length
      · have f1 : ((x.length : Nat) : Int) > 8000 := by omega
        go_wp2_with fail
        go_ret
        obtain ⟨r1, r2⟩ := L1.out (longL_at HX.out hlong)
        rw [r1, r2]
        exact ⟨rfl, HS.out.kept0 HK.out, HK.out.of_no⟩
      · have f1 : ¬ ((x.length : Nat) : Int) > 8000 := by omega
        go_wp2_with fail
        go_roundw
        case rel =>
          refine ⟨k + 1, by omega, by go_num, fun i y hi hy => ?_, HK.out⟩
          by_cases hik : i = k
          · subst hik
            have := HX.out.symm.trans hy
            cases this
            omega
          · exact HH.out i y (by omega) hy
        case measure => simp [intOf]; omega
    · obtain rfl : k = l.length := by omega
      have f1 := decide_eq_false (show ¬ ((l.length : Nat) : Int) < l.length by omega)
      have f2 := decide_eq_false (show ¬ l.length < l.length by omega)
      have HL := Lib.hid (longL_no (l := l) (fun i x hx => HH.out i x (List.getElem?_eq_some_iff.1 hx).1 hx))
      have ST1 := Lib.hid (ST.out wr HK.out)
      generalize hss : streamS l = s at *
      have hz : (⟨s.toArray⟩ : ByteArray).size = s.length := by simp [ByteArray.size]
      clear HH
      go_wp2_with (go_at_call 43; refine ST1.out.mono ?_; rintro e w1 ⟨rfl, k1⟩; have HK1 := Lib.hid k1; have CP1 := Lib.hid (CP.out w1 k1); clear k1)
      by_cases hfull : d.jcap < s.length
      · obtain ⟨r1, r2⟩ := L2.out HL.out hfull
        have HR := Lib.hid (And.intro r1 r2)
        clear r1 r2
        have f3 : ((s.length : Nat) : Int) > (d.jcap : Int) := by omega
        generalize d.jcap = jc at *
        go_wp2_with (go_at_call 42; refine CP1.out.mono ?_; rintro e w2 ⟨rfl, rfl⟩)
        go_ret
        rw [HR.out.1, HR.out.2]
        exact ⟨rfl, HS.out.kept0 HK1.out, HK1.out.of_no⟩
      · obtain ⟨r1, r2⟩ := L3.out HL.out hfull
        have HR := Lib.hid (And.intro r1 r2)
        clear r1 r2
        have f3 : ¬ ((s.length : Nat) : Int) > (d.jcap : Int) := by omega
        have hsz : s.length ≤ 1000000 := by omega
        generalize d.jcap = jc at *
        go_wp2_with (go_at_call 42; refine CP1.out.mono ?_; rintro e w2 ⟨rfl, rfl⟩)
        have HB3 : Hid (repHd h l).Ok := Lib.hid ⟨by unfold repHd; simp only; omega, by unfold repHd; simp only; omega, by unfold repHd; simp only; rw [hss]; omega, by unfold repHd; simp only; omega, crc_lt _ _⟩
        have HHN : Hid (hdV (repHd h l) = .agg #[.int .i64 ((h.seq : Int) + 1), .int .i64 (1 - (h.bank : Int)), .int .i64 s.length, .int .i64 l.length, .int .u32 (crc 0 s)]) := Lib.hid (by
          unfold hdV repHd; simp only [hss]
          rw [show ((h.seq + 1 : Nat) : Int) = (h.seq : Int) + 1 by omega, show ((1 - h.bank : Nat) : Int) = 1 - (h.bank : Int) by omega])
        clear CP1 ST1
        refine wp_region_par 20 [] [] [] [] [] (fun wx => Kept NoM w wx)
              [fun v _ => v = .pointer (some ⟨J, 0, none⟩), fun v _ => v = .pointer (some ⟨J, 0, none⟩), fun v _ => v = .pointer (some ⟨J, 1, none⟩), fun v _ => v = .pointer (some ⟨J, 1, none⟩), fun v _ => v = .int .i64 h.seq, fun v _ => v = .int .i64 ((h.seq : Int) + 1), fun v _ => v = .pointer (some ⟨J, 0, none⟩), fun v _ => v = .pointer (some ⟨J, 0, none⟩), fun v _ => v = .pointer (some ⟨J, 1, none⟩), fun v _ => v = .pointer (some ⟨J, 2, none⟩), fun v _ => v = .int .i64 h.bank, fun v _ => v = .int .i64 (1 - (h.bank : Int)), fun v _ => v = .string ⟨s.toArray⟩, fun v _ => v = .int .i64 s.length, fun v _ => v = .slice va l.length vcap, fun v _ => v = .int .i64 l.length, fun v _ => v = .string ⟨s.toArray⟩, fun v _ => v = .int .u32 (crc 0 s), fun v _ => v = .agg #[.int .i64 ((h.seq : Int) + 1), .int .i64 (1 - (h.bank : Int)), .int .i64 s.length, .int .i64 l.length, .int .u32 (crc 0 s)], fun v wx => ∃ g, (v = .pointer (some ⟨g, 0, none⟩) ∧ w.heap.size ≤ g) ∧ wx.heap[g]? = some (.cells #[.int .i64 0, .int .i64 0, .int .i64 0, .int .i64 0, .int .u32 0] 78 (0, 0))] (by kernel_rfl) (by kernel_rfl) (by kernel_rfl) HK1.out.drew (inits_nil) ?_ ?_
        · intro i hi9
          have hst := stab_all (posts := [fun v _ => v = .pointer (some ⟨J, 0, none⟩), fun v _ => v = .pointer (some ⟨J, 0, none⟩), fun v _ => v = .pointer (some ⟨J, 1, none⟩), fun v _ => v = .pointer (some ⟨J, 1, none⟩), fun v _ => v = .int .i64 h.seq, fun v _ => v = .int .i64 ((h.seq : Int) + 1), fun v _ => v = .pointer (some ⟨J, 0, none⟩), fun v _ => v = .pointer (some ⟨J, 0, none⟩), fun v _ => v = .pointer (some ⟨J, 1, none⟩), fun v _ => v = .pointer (some ⟨J, 2, none⟩), fun v _ => v = .int .i64 h.bank, fun v _ => v = .int .i64 (1 - (h.bank : Int)), fun v _ => v = .string ⟨s.toArray⟩, fun v _ => v = .int .i64 s.length, fun v _ => v = .slice va l.length vcap, fun v _ => v = .int .i64 l.length, fun v _ => v = .string ⟨s.toArray⟩, fun v _ => v = .int .u32 (crc 0 s), fun v _ => v = .agg #[.int .i64 ((h.seq : Int) + 1), .int .i64 (1 - (h.bank : Int)), .int .i64 s.length, .int .i64 l.length, .int .u32 (crc 0 s)], fun v wx => ∃ g, (v = .pointer (some ⟨g, 0, none⟩) ∧ w.heap.size ≤ g) ∧ wx.heap[g]? = some (.cells #[.int .i64 0, .int .i64 0, .int .i64 0, .int .i64 0, .int .u32 0] 78 (0, 0))])        (stab_cons (stab_const _) (stab_cons (stab_const _) (stab_cons (stab_const _) (stab_cons (stab_const _) (stab_cons (stab_const _) (stab_cons (stab_const _) (stab_cons (stab_const _) (stab_cons (stab_const _) (stab_cons (stab_const _) (stab_cons (stab_const _) (stab_cons (stab_const _) (stab_cons (stab_const _) (stab_cons (stab_const _) (stab_cons (stab_const _) (stab_cons (stab_const _) (stab_cons (stab_const _) (stab_cons (stab_const _) (stab_cons (stab_const _) (stab_cons (stab_const _) (stab_cons (stab_blk (fun g v => v = .pointer (some ⟨g, 0, none⟩) ∧ w.heap.size ≤ g) (fun g => g) (fun g => .cells #[.int .i64 0, .int .i64 0, .int .i64 0, .int .i64 0, .int .u32 0] 78 (0, 0))) stab_nil))))))))))))))))))))
          have hist := init_stab (inits := []) (fun p h => by cases h)
          have HST := Lib.hid hst
          have HIST := Lib.hid hist
          clear hst hist
          rcases (show i = 0 ∨ i = 1 ∨ i = 2 ∨ i = 3 ∨ i = 4 ∨ i = 5 ∨ i = 6 ∨ i = 7 ∨ i = 8 ∨ i = 9 ∨ i = 10 ∨ i = 11 ∨ i = 12 ∨ i = 13 ∨ i = 14 ∨ i = 15 ∨ i = 16 ∨ i = 17 ∨ i = 18 ∨ i = 19 by omega) with rfl | rfl | rfl | rfl | rfl | rfl | rfl | rfl | rfl | rfl | rfl | rfl | rfl | rfl | rfl | rfl | rfl | rfl | rfl | rfl
          · refine asks_intro ?_; intro o ho a wx hc hout hp hi R hR; cases ho
            have e0 : a.tmps[0]? = some (.pointer (some ⟨J, 0, none⟩)) := hout 0 rfl
            go_simp
            exact hR _ _ hc rfl (fun _ _ _ _ _ u h => h) (fun _ _ h => h)
          · refine asks_intro ?_; intro o ho a wx hc hout hp hi R hR; cases ho
            have e30 : a.tmps[30]?.getD undef = .pointer (some ⟨J, 0, none⟩) := hp 0 (by omega) rfl
            obtain ⟨c0, c1, c2⟩ := SC.out wx hc
            go_simp
            exact hR _ _ hc rfl (fun _ _ _ _ _ u h => h) (fun _ _ h => h)
          · refine asks_intro ?_; intro o ho a wx hc hout hp hi R hR; cases ho
            have e31 : a.tmps[31]?.getD undef = .pointer (some ⟨J, 0, none⟩) := hp 1 (by omega) rfl
            go_simp
            exact hR _ _ hc rfl (fun _ _ _ _ _ u h => h) (fun _ _ h => h)
          · refine asks_intro ?_; intro o ho a wx hc hout hp hi R hR; cases ho
            have e32 : a.tmps[32]?.getD undef = .pointer (some ⟨J, 1, none⟩) := hp 2 (by omega) rfl
            go_simp
            exact hR _ _ hc rfl (fun _ _ _ _ _ u h => h) (fun _ _ h => h)
          · refine asks_intro ?_; intro o ho a wx hc hout hp hi R hR; cases ho
            have e33 : a.tmps[33]?.getD undef = .pointer (some ⟨J, 1, none⟩) := hp 3 (by omega) rfl
            obtain ⟨c0, c1, c2⟩ := SC.out wx hc
            go_simp
            exact hR _ _ hc rfl (fun _ _ _ _ _ u h => h) (fun _ _ h => h)
          · refine asks_intro ?_; intro o ho a wx hc hout hp hi R hR; cases ho
            have e34 : a.tmps[34]?.getD undef = .int .i64 h.seq := hp 4 (by omega) rfl
            have q := IntWalk.i64_in ((h.seq : Int) + 1) (by omega)
            go_simp
            exact hR _ _ hc rfl (fun _ _ _ _ _ u h => h) (fun _ _ h => h)
          · refine asks_intro ?_; intro o ho a wx hc hout hp hi R hR; cases ho
            have e0 : a.tmps[0]? = some (.pointer (some ⟨J, 0, none⟩)) := hout 0 rfl
            go_simp
            exact hR _ _ hc rfl (fun _ _ _ _ _ u h => h) (fun _ _ h => h)
          · refine asks_intro ?_; intro o ho a wx hc hout hp hi R hR; cases ho
            have e36 : a.tmps[36]?.getD undef = .pointer (some ⟨J, 0, none⟩) := hp 6 (by omega) rfl
            obtain ⟨c0, c1, c2⟩ := SC.out wx hc
            go_simp
            exact hR _ _ hc rfl (fun _ _ _ _ _ u h => h) (fun _ _ h => h)
          · refine asks_intro ?_; intro o ho a wx hc hout hp hi R hR; cases ho
            have e37 : a.tmps[37]?.getD undef = .pointer (some ⟨J, 0, none⟩) := hp 7 (by omega) rfl
            go_simp
            exact hR _ _ hc rfl (fun _ _ _ _ _ u h => h) (fun _ _ h => h)
          · refine asks_intro ?_; intro o ho a wx hc hout hp hi R hR; cases ho
            have e38 : a.tmps[38]?.getD undef = .pointer (some ⟨J, 1, none⟩) := hp 8 (by omega) rfl
            go_simp
            exact hR _ _ hc rfl (fun _ _ _ _ _ u h => h) (fun _ _ h => h)
          · refine asks_intro ?_; intro o ho a wx hc hout hp hi R hR; cases ho
            have e39 : a.tmps[39]?.getD undef = .pointer (some ⟨J, 2, none⟩) := hp 9 (by omega) rfl
            obtain ⟨c0, c1, c2⟩ := SC.out wx hc
            go_simp
            exact hR _ _ hc rfl (fun _ _ _ _ _ u h => h) (fun _ _ h => h)
          · refine asks_intro ?_; intro o ho a wx hc hout hp hi R hR; cases ho
            have e40 : a.tmps[40]?.getD undef = .int .i64 h.bank := hp 10 (by omega) rfl
            have q := IntWalk.i64_in (1 - (h.bank : Int)) (by omega)
            go_simp
            exact hR _ _ hc rfl (fun _ _ _ _ _ u h => h) (fun _ _ h => h)
          · refine asks_intro ?_; intro o ho a wx hc hout hp hi R hR; cases ho
            have e7 : a.tmps[7]? = some (.string ⟨s.toArray⟩) := hout 7 rfl
            go_simp
            exact hR _ _ hc rfl (fun _ _ _ _ _ u h => h) (fun _ _ h => h)
          · refine asks_intro ?_; intro o ho a wx hc hout hp hi R hR; cases ho
            have e42 : a.tmps[42]?.getD undef = .string ⟨s.toArray⟩ := hp 12 (by omega) rfl
            go_simp
            exact hR _ _ hc rfl (fun _ _ _ _ _ u h => h) (fun _ _ h => h)
          · refine asks_intro ?_; intro o ho a wx hc hout hp hi R hR; cases ho
            have e1 : a.tmps[1]? = some (.slice va l.length vcap) := hout 1 rfl
            go_simp
            exact hR _ _ hc rfl (fun _ _ _ _ _ u h => h) (fun _ _ h => h)
          · refine asks_intro ?_; intro o ho a wx hc hout hp hi R hR; cases ho
            have e44 : a.tmps[44]?.getD undef = .slice va l.length vcap := hp 14 (by omega) rfl
            go_simp
            exact hR _ _ hc rfl (fun _ _ _ _ _ u h => h) (fun _ _ h => h)
          · refine asks_intro ?_; intro o ho a wx hc hout hp hi R hR; cases ho
            have e7 : a.tmps[7]? = some (.string ⟨s.toArray⟩) := hout 7 rfl
            go_simp
            exact hR _ _ hc rfl (fun _ _ _ _ _ u h => h) (fun _ _ h => h)
          · refine asks_intro ?_; intro o ho a wx hc hout hp hi R hR; cases ho
            have e46 : a.tmps[46]?.getD undef = .string ⟨s.toArray⟩ := hp 16 (by omega) rfl
            go_simp
            refine (crc_ok 0 (by omega) s (by omega) wx).mono ?_
            rintro e w2 ⟨rfl, k1⟩
            exact ⟨_, rfl, hR _ _ (hc.trans k1) rfl (fun j _ _ _ _ u h => HST.out j u _ _ k1 h) (fun j _ h => HIST.out j _ _ k1 h)⟩
          · refine asks_intro ?_; intro o ho a wx hc hout hp hi R hR; cases ho
            have e35 : a.tmps[35]?.getD undef = .int .i64 ((h.seq : Int) + 1) := hp 5 (by omega) rfl
            have e41 : a.tmps[41]?.getD undef = .int .i64 (1 - (h.bank : Int)) := hp 11 (by omega) rfl
            have e43 : a.tmps[43]?.getD undef = .int .i64 s.length := hp 13 (by omega) rfl
            have e45 : a.tmps[45]?.getD undef = .int .i64 l.length := hp 15 (by omega) rfl
            have e47 : a.tmps[47]?.getD undef = .int .u32 (crc 0 s) := hp 17 (by omega) rfl
            go_simp
            exact hR _ _ hc rfl (fun _ _ _ _ _ u h => h) (fun _ _ h => h)
          · refine asks_intro ?_; intro o ho a wx hc hout hp hi R hR; cases ho
            go_simp
            exact hR _ _ (hc.alloc _) ⟨_, ⟨rfl, hc.size⟩, blk_new _ _⟩ (fun j _ _ _ _ u h => HST.out j u _ _ ((Kept.refl _ _).alloc _) h) (fun j _ h => HIST.out j _ _ ((Kept.refl _ _).alloc _) h)
        · intro vs w' hc hp
          have e30 : vs 0 = .pointer (some ⟨J, 0, none⟩) := hp 0 (by omega) rfl
          have e31 : vs 1 = .pointer (some ⟨J, 0, none⟩) := hp 1 (by omega) rfl
          have e32 : vs 2 = .pointer (some ⟨J, 1, none⟩) := hp 2 (by omega) rfl
          have e33 : vs 3 = .pointer (some ⟨J, 1, none⟩) := hp 3 (by omega) rfl
          have e34 : vs 4 = .int .i64 h.seq := hp 4 (by omega) rfl
          have e35 : vs 5 = .int .i64 ((h.seq : Int) + 1) := hp 5 (by omega) rfl
          have e36 : vs 6 = .pointer (some ⟨J, 0, none⟩) := hp 6 (by omega) rfl
          have e37 : vs 7 = .pointer (some ⟨J, 0, none⟩) := hp 7 (by omega) rfl
          have e38 : vs 8 = .pointer (some ⟨J, 1, none⟩) := hp 8 (by omega) rfl
          have e39 : vs 9 = .pointer (some ⟨J, 2, none⟩) := hp 9 (by omega) rfl
          have e40 : vs 10 = .int .i64 h.bank := hp 10 (by omega) rfl
          have e41 : vs 11 = .int .i64 (1 - (h.bank : Int)) := hp 11 (by omega) rfl
          have e42 : vs 12 = .string ⟨s.toArray⟩ := hp 12 (by omega) rfl
          have e43 : vs 13 = .int .i64 s.length := hp 13 (by omega) rfl
          have e44 : vs 14 = .slice va l.length vcap := hp 14 (by omega) rfl
          have e45 : vs 15 = .int .i64 l.length := hp 15 (by omega) rfl
          have e46 : vs 16 = .string ⟨s.toArray⟩ := hp 16 (by omega) rfl
          have e47 : vs 17 = .int .u32 (crc 0 s) := hp 17 (by omega) rfl
          have e48 : vs 18 = .agg #[.int .i64 ((h.seq : Int) + 1), .int .i64 (1 - (h.bank : Int)), .int .i64 s.length, .int .i64 l.length, .int .u32 (crc 0 s)] := hp 18 (by omega) rfl
          obtain ⟨g, e8, hb8⟩ : ∃ g, (vs 19 = .pointer (some ⟨g, 0, none⟩) ∧ w.heap.size ≤ g) ∧ w'.heap[g]? = some (.cells #[.int .i64 0, .int .i64 0, .int .i64 0, .int .i64 0, .int .u32 0] 78 (0, 0)) := hp 19 (by omega) rfl
          simp only [List.take_succ_cons, List.take_zero, List.drop_succ_cons, List.drop_zero, putAll, Act.put, List.setIfInBounds_toArray, List.set_cons_zero, List.set_cons_succ, Nat.reduceAdd, e30, e31, e32, e33, e34, e35, e36, e37, e38, e39, e40, e41, e42, e43, e44, e45, e46, e47, e48]
          obtain ⟨e8, hg8⟩ := e8
          rw [e8]
          change wpList _ _ _ _ _ _
          obtain ⟨wb, ewb, kb, lb⟩ : ∃ wb, w' = putB wb g #[.int .i64 0, .int .i64 0, .int .i64 0, .int .i64 0, .int .u32 0] 78 ∧ Kept NoM w wb ∧ g < wb.heap.size := ⟨w', putB_self hb8, hc, lt_of_block hb8⟩
          have HGG := Lib.hid (And.intro hg8 (And.intro kb lb))
          rw [ewb]
          clear ewb hc hb8 hp kb hg8
          clear e30 e31 e32 e33 e34 e35 e36 e37 e38 e39 e40 e41 e42 e43 e44 e45 e46 e47 e48
          go_wp2_with fail
          obtain ⟨W9, hW9⟩ : ∃ W9, putB wb g #[.int .i64 ((h.seq : Int) + 1), .int .i64 (1 - (h.bank : Int)), .int .i64 s.length, .int .i64 l.length, .int .u32 (crc 0 s)] 78 = W9 := ⟨_, rfl⟩
          have HG : Hid (W9.heap[g]? = some (.cells #[.int .i64 ((h.seq : Int) + 1), .int .i64 (1 - (h.bank : Int)), .int .i64 s.length, .int .i64 l.length, .int .u32 (crc 0 s)] 78 (0, 0))) := Lib.hid (by rw [← hW9]; exact putB_blk _ _ _ _ HGG.out.2.2)
          have HW : Hid (Kept NoM w W9) := Lib.hid (by rw [← hW9]; exact HGG.out.2.1.putN HGG.out.1 _ _)
          rw [hW9]
          clear hW9 HGG
          have HIL : Hid (∀ i, InJ J D G B i → i < W9.heap.size) := Lib.hid (fun i hi => HINJ.out W9 HW.out i hi)
          refine wp_region_par 5 [] [] [] [] [] (fun wx => Kept NoM W9 wx)
                [fun v _ => v = .pointer (some ⟨J, 0, none⟩), fun v _ => v = .string ⟨s.toArray⟩, fun v _ => v = .agg #[.int .i64 ((h.seq : Int) + 1), .int .i64 (1 - (h.bank : Int)), .int .i64 s.length, .int .i64 l.length, .int .u32 (crc 0 s)], fun v _ => v = .slice va l.length vcap, fun v wx => ∃ a8 cap8, v = .slice a8 l.length cap8 ∧ RdS wx (InJ J D G B) 1 EStr (.slice a8 l.length cap8) l] (by kernel_rfl) (by kernel_rfl) (by kernel_rfl) ((Kept.refl _ _).drew) (inits_nil) ?_ ?_
          · intro i hi9
            have hst := stab_all (posts := [fun v _ => v = .pointer (some ⟨J, 0, none⟩), fun v _ => v = .string ⟨s.toArray⟩, fun v _ => v = .agg #[.int .i64 ((h.seq : Int) + 1), .int .i64 (1 - (h.bank : Int)), .int .i64 s.length, .int .i64 l.length, .int .u32 (crc 0 s)], fun v _ => v = .slice va l.length vcap, fun v wx => ∃ a8 cap8, v = .slice a8 l.length cap8 ∧ RdS wx (InJ J D G B) 1 EStr (.slice a8 l.length cap8) l])        (stab_cons (stab_const _) (stab_cons (stab_const _) (stab_cons (stab_const _) (stab_cons (stab_const _) (stab_cons (fun _ _ _ k ⟨a8, cap8, q1, q2⟩ => ⟨a8, cap8, q1, q2.kept k.of_no (fun _ _ x => x)⟩) stab_nil)))))
            have hist := init_stab (inits := []) (fun p h => by cases h)
            have HST := Lib.hid hst
            have HIST := Lib.hid hist
            clear hst hist
            rcases (show i = 0 ∨ i = 1 ∨ i = 2 ∨ i = 3 ∨ i = 4 by omega) with rfl | rfl | rfl | rfl | rfl
            · refine asks_intro ?_; intro o ho a wx hc hout hp hi R hR; cases ho
              have e0 : a.tmps[0]? = some (.pointer (some ⟨J, 0, none⟩)) := hout 0 rfl
              go_simp
              exact hR _ _ hc rfl (fun _ _ _ _ _ u h => h) (fun _ _ h => h)
            · refine asks_intro ?_; intro o ho a wx hc hout hp hi R hR; cases ho
              have e7 : a.tmps[7]? = some (.string ⟨s.toArray⟩) := hout 7 rfl
              go_simp
              exact hR _ _ hc rfl (fun _ _ _ _ _ u h => h) (fun _ _ h => h)
            · refine asks_intro ?_; intro o ho a wx hc hout hp hi R hR; cases ho
              have e8 : a.tmps[8]? = some (.pointer (some ⟨g, 0, none⟩)) := hout 8 rfl
              have hbi := hc.blk HG.out (fun x => x)
              have y0 := cell_blk hbi 0 _ rfl
              have y1 := cell_blk hbi 1 _ rfl
              have y2 := cell_blk hbi 2 _ rfl
              have y3 := cell_blk hbi 3 _ rfl
              have y4 := cell_blk hbi 4 _ rfl
              go_simp
              exact hR _ _ hc rfl (fun _ _ _ _ _ u h => h) (fun _ _ h => h)
            · refine asks_intro ?_; intro o ho a wx hc hout hp hi R hR; cases ho
              have e1 : a.tmps[1]? = some (.slice va l.length vcap) := hout 1 rfl
              go_simp
              exact hR _ _ hc rfl (fun _ _ _ _ _ u h => h) (fun _ _ h => h)
            · refine asks_intro ?_; intro o ho a wx hc hout hp hi R hR; cases ho
              have e52 : a.tmps[52]?.getD undef = .slice va l.length vcap := hp 3 (by omega) rfl
              go_simp
              refine (clonestr_ok _ l NoM wx (HV.out.kept (HW.out.trans hc) (fun _ _ x => x)) (by omega)).mono ?_
              rintro e w2 ⟨a8, cap8, O8, rfl, q1, q2, q3⟩
              exact ⟨_, rfl, hR _ _ (hc.trans q3) ⟨a8, cap8, rfl, q1.rdNew q2 (fun g2 h9 hin => by have := HIL.out g2 hin; have := hc.size; omega)⟩ (fun j _ _ _ _ u h => HST.out j u _ _ q3 h) (fun j _ h => HIST.out j _ _ q3 h)⟩
          · intro vs w10 hc hp
            have e49 : vs 0 = .pointer (some ⟨J, 0, none⟩) := hp 0 (by omega) rfl
            have e50 : vs 1 = .string ⟨s.toArray⟩ := hp 1 (by omega) rfl
            have e51 : vs 2 = .agg #[.int .i64 ((h.seq : Int) + 1), .int .i64 (1 - (h.bank : Int)), .int .i64 s.length, .int .i64 l.length, .int .u32 (crc 0 s)] := hp 2 (by omega) rfl
            have e52 : vs 3 = .slice va l.length vcap := hp 3 (by omega) rfl
            obtain ⟨a8, cap8, e53, r8⟩ : ∃ a8 cap8, vs 4 = .slice a8 l.length cap8 ∧ RdS w10 (InJ J D G B) 1 EStr (.slice a8 l.length cap8) l := hp 4 (by omega) rfl
            simp only [List.take_succ_cons, List.take_zero, List.drop_succ_cons, List.drop_zero, putAll, Act.put, List.setIfInBounds_toArray, List.set_cons_zero, List.set_cons_succ, Nat.reduceAdd, e49, e50, e51, e52]
            change wpList _ _ _ _ _ _
            have HK10 := Lib.hid hc
            have HR10 := Lib.hid r8
            clear hc hp r8 e49 e50 e51 e52
            rcases hF : jkeepF d h (repHd h l) 0 s with _ | _
            · have KP : Hid (Calls Try.prog 45 #[.pointer (some ⟨J, 0, none⟩), .int .i64 0, .string ⟨s.toArray⟩, .agg #[.int .i64 ((h.seq : Int) + 1), .int .i64 (1 - (h.bank : Int)), .int .i64 s.length, .int .i64 l.length, .int .u32 (crc 0 s)], .slice a8 l.length cap8] w10 fun e w' => e = .returned (.int .i64 0) ∧ JS w' J D G B (jkeepD d h (repHd h l) 0 s) (repHd h l) l false ∧ Kept (InJ J D G B) w10 w') := by
                have k := keep_ok (repHd h l) 0 s (.slice a8 l.length cap8) l h2 (by omega) (by unfold repHd; simp only; omega) HB3.out w10 (HS.out.kept0 (HW.out.trans HK10.out)) HR10.out
                rw [hF] at k; rw [HHN.out] at k
                exact Lib.hid (k.mono fun e w' q => ⟨q.1, q.2.1, q.2.2.1⟩)
              have HF := Lib.hid hF
              clear hF
              go_wp2_with (go_at_call 45; refine KP.out.mono ?_; rintro e w2 ⟨rfl, js2, kk2⟩; have HJ2 := Lib.hid js2; have HK2 := Lib.hid kk2; clear js2 kk2)
              go_ret
              rw [HR.out.1, HR.out.2]; unfold Jn.keep; simp only; rw [HF.out]
              exact ⟨rfl, HJ2.out, (HW.out.trans HK10.out).of_no.trans HK2.out⟩
            · have KP : Hid (Calls Try.prog 45 #[.pointer (some ⟨J, 0, none⟩), .int .i64 0, .string ⟨s.toArray⟩, .agg #[.int .i64 ((h.seq : Int) + 1), .int .i64 (1 - (h.bank : Int)), .int .i64 s.length, .int .i64 l.length, .int .u32 (crc 0 s)], .slice a8 l.length cap8] w10 fun e w' => e = .returned (.int .i64 13) ∧ JS w' J D G B (jkeepD d h (repHd h l) 0 s) h recs true ∧ Kept (InJ J D G B) w10 w') := by
                have k := keep_ok (repHd h l) 0 s (.slice a8 l.length cap8) l h2 (by omega) (by unfold repHd; simp only; omega) HB3.out w10 (HS.out.kept0 (HW.out.trans HK10.out)) HR10.out
                rw [hF] at k; rw [HHN.out] at k
                exact Lib.hid (k.mono fun e w' q => ⟨q.1, q.2.1, q.2.2.1⟩)
              have HF := Lib.hid hF
              clear hF
              go_wp2_with (go_at_call 45; refine KP.out.mono ?_; rintro e w2 ⟨rfl, js2, kk2⟩; have HJ2 := Lib.hid js2; have HK2 := Lib.hid kk2; clear js2 kk2)
              go_ret
              rw [HR.out.1, HR.out.2]; unfold Jn.keep; simp only; rw [HF.out]
              exact ⟨rfl, HJ2.out, (HW.out.trans HK10.out).of_no.trans HK2.out⟩
end
end Go.Proofs.Ytjcmnobfdidnkaa
