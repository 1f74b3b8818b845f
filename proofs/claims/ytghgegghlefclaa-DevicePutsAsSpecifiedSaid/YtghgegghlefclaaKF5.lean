/- Walks: the law DevicePutsAsSpecified. -/
import Derived.Test.YtghgegghlefclaaKW45
import Derived.Test.YtghgegghlefclaaKW42
import Derived.Test.YtghgegghlefclaaKW20
set_option linter.unusedVariables false
set_option linter.unusedSimpArgs false
set_option linter.unusedSectionVars false
namespace Go.Proofs.Ytghgegghlefclaa
open Go.RowKit
set_option maxHeartbeats 4000000
set_option maxRecDepth 8000
theorem mem_stB {room : Int} {acks : List Ak} {t : List Ru} {l : List Wr} {r : Ru} (k : Nat) (h : r ∈ stB room acks t l k) : r ∈ t ∨ ∃ y ∈ l, r = y.rule := by
  induction k with
  | zero => exact .inl h
  | succ k ih =>
    cases hx : l[k]? with
    | none =>
      have e : stB room acks t l (k + 1) = stB room acks t l k := by
        unfold stB
        rw [List.take_add_one, hx]; simp
      rw [e] at h
      exact ih h
    | some x =>
      rw [stB_succ hx] at h
      split at h
      · rcases mem_putT_or h with e | h
        · exact .inr ⟨x, List.mem_of_getElem? hx, e⟩
        · exact ih h
      · exact ih h
theorem mem_belT {room : Int} {acks : List Ak} {t : List Ru} {l : List Wr} {r : Ru} (h : r ∈ belT room acks t l) : r ∈ t ∨ ∃ y ∈ l, r = y.rule := by
  rw [← stB_all] at h
  exact mem_stB _ h
theorem puts_ok (t : List Ru) (room : Int) (l : List Wr) (acks : List Ak) (tv lv av : Value) (w : World) (ht : RdS w NoM 23 ERu tv t) (hot : ∀ r ∈ t, OutR w r) (htl : t.length ≤ 9223372036854775807) (hl : RdS w NoM 26 EWr lv l) (hol : ∀ y ∈ l, OutR w y.rule) (hll : l.length ≤ 9223372036854775807) (ha : RdS w NoM 3 EAk av acks) (hal : acks.length ≤ 9223372036854775807) :
    Calls Try.prog 5 #[tv, .int .i64 room, lv, av] w fun e w' => e = .returned (.bool true) ∧ Kept NoM w w' := by
  obtain ⟨ta, tc, rfl, _, _⟩ := ht.shape
  obtain ⟨la, lc, rfl, _, _⟩ := hl.shape
  obtain ⟨aa, ac, rfl, _, _⟩ := ha.shape
  have RT := Lib.hid ht
  have RL := Lib.hid hl
  have RA := Lib.hid ha
  have KW := Lib.hid (Kept.refl NoM w)
  have OT := Lib.hid hot
  have OL := Lib.hid (fun wx (k : Kept NoM w wx) y hy => (hol y hy).kept k)
  clear ht hl ha hot hol
  go_enter Try.func5, Try.ntmps5
  go_wp2_with fail
  refine (sanity_ok _).mono ?_
  rintro e w1 ⟨rfl, kk⟩
  replace KW := Lib.hid (KW.out.trans kk)
  clear kk
  go_wp2_with fail
  refine (fewt_ok _ t NoM 40 w1 (RT.out.kept KW.out.of_no (fun _ _ x => x)) htl w KW.out OT.out).mono ?_
  rintro e w2 ⟨b1, rfl, hb1, kk⟩
  replace KW := Lib.hid (KW.out.trans kk)
  clear kk
  rcases b1 with _ | _
  · go_wp2_with fail
    go_ret
    exact ⟨rfl, KW.out⟩
  obtain ⟨ht40, hot2⟩ := hb1 rfl
  have HT := Lib.hid hot2
  clear hb1 hot2 OT
  go_wp2_with fail
  refine (rightt_ok _ t NoM room w2 (RT.out.kept KW.out.of_no (fun _ _ x => x)) (by omega)).mono ?_
  rintro e w3 ⟨b2, rfl, hb2, kk⟩
  replace KW := Lib.hid (KW.out.trans kk)
  clear kk
  rcases b2 with _ | _
  · go_wp2_with fail
    go_ret
    exact ⟨rfl, KW.out⟩
  have RTT := Lib.hid (hb2.1 rfl)
  clear hb2
  go_wp2_with fail
  refine (formedl_ok _ l NoM 20 w3 (RL.out.kept KW.out.of_no (fun _ _ x => x)) hll (OL.out w3 KW.out)).mono ?_
  rintro e w4 ⟨b3, rfl, hb3, kk⟩
  have KK3 := Lib.hid KW.out
  replace KW := Lib.hid (KW.out.trans kk)
  rcases b3 with _ | _
  · go_wp2_with fail
    go_ret
    exact ⟨rfl, KW.out⟩
  obtain ⟨⟨hl20, hol2⟩, hfl⟩ := hb3 rfl
  have HL4 := Lib.hid (fun y hy => (hol2 y hy).kept kk)
  have HFL := Lib.hid hfl
  clear hb3 hol2 hfl kk OL KK3
  by_cases h40 : 40 < acks.length
  · have f1 : (40 : Int) < acks.length := by omega
    go_wp2_with fail
    go_ret
    exact ⟨rfl, KW.out⟩
  have f1 : ¬ (40 : Int) < acks.length := by omega
  have HO : Hid (∀ wx, Kept NoM w wx → Kept NoM w4 wx → ∀ r, (r ∈ t ∨ ∃ y ∈ l, r = y.rule) → OutB wx r) := Lib.hid (fun wx k k4 r hr => by rcases hr with h | ⟨y, hy, e⟩; exact (HT.out r h).kept k; rw [e]; exact (HL4.out y hy).kept k4)
  have K4 := Lib.hid (Kept.refl NoM w4)
  by_cases hl0 : l.length = 0
  · have g0 : decide ((0 : Int) < l.length) = false := decide_eq_false (by omega)
    have g1 : decide (0 < l.length) = false := decide_eq_false (by omega)
    clear hl0
    have BB := Lib.hid (bel_ok (.slice ta t.length tc) (.slice la l.length lc) (.slice aa acks.length ac) t l acks room NoM NoM NoM w4 (RT.out.kept KW.out.of_no (fun _ _ x => x)) noM_lt RTT.out.dec RTT.out.len (by omega) (RL.out.kept KW.out.of_no (fun _ _ x => x)) (by omega) (RA.out.kept KW.out.of_no (fun _ _ x => x)) (by omega))
    go_wp2_with fail
    refine BB.out.mono ?_
    rintro e w20 ⟨b1a, b1c, rfl, rb1, kk⟩
    replace KW := Lib.hid (KW.out.trans kk); replace K4 := Lib.hid (K4.out.trans kk)
    have RB1 := Lib.hid rb1
    clear kk BB rb1
    go_wp2_with fail
    refine (rbel_ok (.slice ta t.length tc) (.slice la l.length lc) (.slice aa acks.length ac) t l acks room NoM NoM NoM w20 (RT.out.kept KW.out.of_no (fun _ _ x => x)) noM_lt RTT.out.dec RTT.out.len (by omega) (RL.out.kept KW.out.of_no (fun _ _ x => x)) (by omega) (RA.out.kept KW.out.of_no (fun _ _ x => x)) (by omega)).mono ?_
    rintro e w21 ⟨b2a, b2c, rfl, rb2, kk⟩
    replace KW := Lib.hid (KW.out.trans kk); replace K4 := Lib.hid (K4.out.trans kk)
    have RB2 := Lib.hid rb2
    replace RB1 := Lib.hid (RB1.out.kept kk.of_no (M := NoM) (fun _ _ x => x))
    clear kk rb2
    have hlen := (stB_ok (room := room) (acks := acks) (t := t) l RTT.out.dec RTT.out.len l.length).2.2
    rw [stB_all] at hlen
    go_wp2_with fail
    refine (rtsame_ok _ _ (belT room acks t l) NoM NoM w21 RB1.out RB2.out (by omega) (fun r hr => HO.out w21 KW.out K4.out r (mem_belT hr))).mono ?_
    rintro e w22 ⟨rfl, kk⟩
    replace KW := Lib.hid (KW.out.trans kk); replace K4 := Lib.hid (K4.out.trans kk)
    clear kk
    go_wp2_with fail
    go_ret
    exact ⟨rfl, KW.out⟩
  · have g0 : (0 : Int) < l.length := by omega
    have g1 : 0 < l.length := by omega
    obtain ⟨x, hx⟩ := getAt g1
    clear hl0
    obtain ⟨lb, lo, e1, _, hc⟩ := wr_at (RL.out.kept KW.out.of_no (fun _ _ x => x)) hx
    subst e1
    rw [Nat.zero_mul, Nat.add_zero] at hc
    have HC := Lib.hid hc
    have HXM := Lib.hid (List.mem_of_getElem? hx)
    clear hc hx
    have PL := Lib.hid (len_putT t room x)
    go_wp2_with (refine wpList_load_big bigWr rfl _ rfl lb lo (wrC x) rfl HC.out rfl ?_)
    refine (put_ok _ t NoM room x w4 (RT.out.kept KW.out.of_no (fun _ _ x => x)) noM_lt RTT.out.dec RTT.out.len (by omega)).mono ?_
    rintro e w5 ⟨p1a, p1c, rfl, rp1, kk⟩
    replace KW := Lib.hid (KW.out.trans kk); replace K4 := Lib.hid (K4.out.trans kk)
    have RP1 := Lib.hid rp1
    have HC5 := Lib.hid (rangeAt_kept HC.out kk (fun x => x))
    clear kk rp1
    go_wp2_with (refine wpList_load_big bigWr rfl _ rfl lb lo (wrC x) rfl HC5.out rfl ?_)
    refine (rput_ok _ t NoM room x w5 (RT.out.kept KW.out.of_no (fun _ _ x => x)) noM_lt RTT.out.dec (by omega)).mono ?_
    rintro e w6 ⟨p2a, p2c, rfl, rp2, kk⟩
    replace KW := Lib.hid (KW.out.trans kk); replace K4 := Lib.hid (K4.out.trans kk)
    have RP2 := Lib.hid rp2
    replace RP1 := Lib.hid (RP1.out.kept kk.of_no (M := NoM) (fun _ _ x => x))
    clear kk rp2
    have hpp : (putOk t room x != putOk t room x) = false := by simp
    go_wp2_with fail
    refine (rtsame_ok _ _ (putT t room x) NoM NoM w6 RP1.out RP2.out (by have := PL.out; omega) (fun r hr => HO.out w6 KW.out K4.out r (by rcases mem_putT_or hr with h | h; exact .inr ⟨x, HXM.out, h⟩; exact .inl h))).mono ?_
    rintro e w7 ⟨rfl, kk⟩
    replace KW := Lib.hid (KW.out.trans kk); replace K4 := Lib.hid (K4.out.trans kk)
    clear kk hpp RP1 RP2
    have BB := Lib.hid (bel_ok (.slice ta t.length tc) (.slice (some ⟨lb, lo, none⟩) l.length lc) (.slice aa acks.length ac) t l acks room NoM NoM NoM w7 (RT.out.kept KW.out.of_no (fun _ _ x => x)) noM_lt RTT.out.dec RTT.out.len (by omega) (RL.out.kept KW.out.of_no (fun _ _ x => x)) (by omega) (RA.out.kept KW.out.of_no (fun _ _ x => x)) (by omega))
    go_wp2_with fail
    refine BB.out.mono ?_
    rintro e w20 ⟨b1a, b1c, rfl, rb1, kk⟩
    replace KW := Lib.hid (KW.out.trans kk); replace K4 := Lib.hid (K4.out.trans kk)
    have RB1 := Lib.hid rb1
    clear kk BB rb1
    go_wp2_with fail
    refine (rbel_ok (.slice ta t.length tc) (.slice (some ⟨lb, lo, none⟩) l.length lc) (.slice aa acks.length ac) t l acks room NoM NoM NoM w20 (RT.out.kept KW.out.of_no (fun _ _ x => x)) noM_lt RTT.out.dec RTT.out.len (by omega) (RL.out.kept KW.out.of_no (fun _ _ x => x)) (by omega) (RA.out.kept KW.out.of_no (fun _ _ x => x)) (by omega)).mono ?_
    rintro e w21 ⟨b2a, b2c, rfl, rb2, kk⟩
    replace KW := Lib.hid (KW.out.trans kk); replace K4 := Lib.hid (K4.out.trans kk)
    have RB2 := Lib.hid rb2
    replace RB1 := Lib.hid (RB1.out.kept kk.of_no (M := NoM) (fun _ _ x => x))
    clear kk rb2
    have hlen := (stB_ok (room := room) (acks := acks) (t := t) l RTT.out.dec RTT.out.len l.length).2.2
    rw [stB_all] at hlen
    go_wp2_with fail
    refine (rtsame_ok _ _ (belT room acks t l) NoM NoM w21 RB1.out RB2.out (by omega) (fun r hr => HO.out w21 KW.out K4.out r (mem_belT hr))).mono ?_
    rintro e w22 ⟨rfl, kk⟩
    replace KW := Lib.hid (KW.out.trans kk); replace K4 := Lib.hid (K4.out.trans kk)
    clear kk
    go_wp2_with fail
    go_ret
    exact ⟨rfl, KW.out⟩
end Go.Proofs.Ytghgegghlefclaa
