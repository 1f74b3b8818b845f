/- Walks: a copy of the head is written. -/
import Derived.Test.YtjcmnobfdidnkaaKJ5
import Derived.Deep.RegionHeld3
set_option linter.unusedVariables false
set_option linter.unusedSimpArgs false
set_option linter.unusedSectionVars false
namespace Go.Proofs.Ytjcmnobfdidnkaa
open Go.RowKit
set_option maxHeartbeats 4000000
set_option maxRecDepth 4000
section
variable {J D G B : Nat} {d : Dk} {h : Hd} {recs : List Pg} {cl : Bool}
theorem jwrite_off (i : Nat) (ho : d.off = true) (w : World) (s : JS w J D G B d h recs cl) : Calls Try.prog 37 #[.pointer (some ⟨J, 0, none⟩), .int .i64 i] w fun e w' => e = .returned (.int .i64 13) ∧ Kept NoM w w' := by
  obtain ⟨a, cap, c0, c1, c2, c3, c4, c5, c6, c7, hr⟩ := s.cells
  have he : d.readE i = 13 := by unfold Dk.readE; rw [ho]; rfl
  obtain ⟨t, ht⟩ : ∃ t, d.readS (i : Int) = t := ⟨_, rfl⟩
  have RD := Lib.hid (read_ok (i : Int) w s.p)
  rw [he, ht] at RD
  unfold strV at RD
  clear s hr he ht
  go_enter Try.func37, Try.ntmps37
  go_wp2_with (go_at_call 34; refine RD.out.mono ?_; rintro e w1 ⟨rfl, k1⟩)
  go_ret
  exact ⟨rfl, k1⟩
theorem jwrite_ok (i : Nat) (hi : i < d.n) (hi2 : i < 2) (hh : h.Ok) (w : World) (s : JS w J D G B d h recs cl) : Calls Try.prog 37 #[.pointer (some ⟨J, 0, none⟩), .int .i64 i] w fun e w' => e = .returned (.int .i64 (jwrite d h i).2) ∧ JS w' J D G B (jwrite d h i).1 h recs cl ∧ Kept (InD D G B) w w' := by
  cases ho : d.off with
  | true =>
    have e1 : jwrite d h i = (d, 13) := by unfold jwrite; rw [ho]; rfl
    rw [e1]
    refine (jwrite_off i ho w s).mono ?_
    rintro e w' ⟨rfl, k⟩
    exact ⟨rfl, s.kept0 k, k.of_no⟩
  | false =>
    have hwf := s.p.wf
    obtain ⟨e0, es⟩ := Dk.readS_up ho hi
    have hpl := hwf.now_len hi
    obtain ⟨c, hc⟩ : ∃ c, (d.now i)[127]? = some c := ⟨(d.now i)[127], by simp [hpl]⟩
    have hmark : markOf (d.now i) = if c = 1 then 2 else 1 := by unfold markOf; rw [hc]; rfl
    obtain ⟨m, hm⟩ : ∃ m, markOf (d.now i) = m := ⟨_, rfl⟩
    obtain ⟨p, hp⟩ : ∃ p, hpage h m = p := ⟨_, rfl⟩
    have hpp := hpage_len h m
    rw [hp] at hpp
    obtain ⟨d1, hd1⟩ : ∃ d1, d.write (i : Int) 0 p = d1 := ⟨_, rfl⟩
    obtain ⟨E, hE⟩ : ∃ E, d.writeE (i : Int) 0 p = E := ⟨_, rfl⟩
    have hj : jwrite d h i = if E = 0 then (d1.flush, d1.flushE) else (d1, E) := by
      unfold jwrite
      rw [ho, hm]
      simp only [Bool.false_eq_true, if_false]
      rw [hp, hE, hd1]
    have HJ := Lib.hid hj
    have RD := Lib.hid (read_ok (i : Int) w s.p)
    rw [e0, es] at RD
    generalize hold : d.now i = old at *
    unfold strV at RD
    have hoz : (⟨old.toArray⟩ : ByteArray).size = 128 := by simp [ByteArray.size, hpl]
    have hi127 : (⟨old.toArray⟩ : ByteArray)[127]'(by rw [hoz]; omega) = c := (List.getElem?_eq_some_iff.1 hc).2
    have HPG : Hid (∀ wx, Kept NoM w wx → Calls Try.prog 59 #[hdV h, .int .u8 m.toNat] wx fun e w' => e = .returned (.string ⟨p.toArray⟩) ∧ Hid (Kept NoM w w')) := Lib.hid (fun wx k => by
      refine (hpage_ok h hh m wx).mono ?_
      rintro e w' ⟨rfl, k'⟩
      exact ⟨by rw [hp]; rfl, Lib.hid (k.trans k')⟩)
    have HWR : Hid (∀ wx, Kept NoM w wx → Calls Try.prog 58 #[.pointer (some ⟨D, 0, none⟩), .int .i64 i, .int .i64 0, .string ⟨p.toArray⟩] wx fun e w' => e = .returned (.int .i64 E) ∧ Hid (JS w' J D G B d1 h recs cl) ∧ Hid (Kept (InD D G B) w w')) := Lib.hid (fun wx k => by
      refine (write_ok (i : Int) 0 p (by omega) wx (s.kept0 k).p).mono ?_
      rintro e w' ⟨rfl, h1, h2⟩
      rw [hd1] at h1
      exact ⟨by rw [hE], Lib.hid ((s.kept0 k).disk h1 h2), Lib.hid ((k.of_no).trans h2)⟩)
    have CE := Lib.hid (fun w' (k : Kept (InD D G B) w w') => (show (w'.cell? ⟨J, 0, none⟩ = w.cell? ⟨J, 0, none⟩ ∧ w'.cell? ⟨J, 1, none⟩ = w.cell? ⟨J, 1, none⟩) from ⟨World.cell?_of_block (k.block J (by obtain ⟨_, _, h1, _⟩ := s.ex; exact lt_of_block h1) s.ne), World.cell?_of_block (k.block J (by obtain ⟨_, _, h1, _⟩ := s.ex; exact lt_of_block h1) s.ne)⟩))
    have HS := Lib.hid s
    have HN := Lib.hid s.ne
    obtain ⟨a, cap, c0, c1, c2, c3, c4, c5, c6, c7, hr⟩ := s.cells
    have SS : Hid (∀ w', Kept (InD D G B) w w' → w'.cell? ⟨J, 0, none⟩ = some (.pointer (some ⟨D, 0, none⟩)) ∧ w'.cell? ⟨J, 1, none⟩ = some (.int .i64 h.seq) ∧ w'.cell? ⟨J, 2, none⟩ = some (.int .i64 h.bank) ∧ w'.cell? ⟨J, 3, none⟩ = some (.int .i64 h.size) ∧ w'.cell? ⟨J, 4, none⟩ = some (.int .i64 h.count) ∧ w'.cell? ⟨J, 5, none⟩ = some (.int .u32 h.sum)) := Lib.hid (fun w' k => ⟨k.cell c0 HN.out, k.cell c1 HN.out, k.cell c2 HN.out, k.cell c3 HN.out, k.cell c4 HN.out, k.cell c5 HN.out⟩)
    clear s hr hwf e0 es hc hold hp hpp hd1 hE hj c0 c1 c2 c3 c4 c5 c6 c7 CE ho
    obtain ⟨c0, c1, c2, c3, c4, c5⟩ := SS.out w (Kept.refl _ _)
    unfold hdV at HPG
    by_cases hc1 : c = 1
    · rw [if_pos hc1] at hmark
      obtain rfl : m = 2 := by rw [← hm]; exact hmark
      have g1 : ((c.toNat : Int) == 1) = true := by (subst hc1; rfl)
      have g2 : (c.toNat : Int) = 1 := by (subst hc1; rfl)
      clear hm hmark
      have HPG2 : Hid (∀ wx, Kept NoM w wx → Calls Try.prog 59 #[.agg #[.int .i64 h.seq, .int .i64 h.bank, .int .i64 h.size, .int .i64 h.count, .int .u32 h.sum], .int .u8 2] wx fun e w' => e = .returned (.string ⟨p.toArray⟩) ∧ Hid (Kept NoM w w')) := HPG
      clear HPG
      go_enter Try.func37, Try.ntmps37
      go_wp2_with fail
      refine RD.out.mono ?_
      rintro e w1 ⟨rfl, k1⟩
      have K1 := Lib.hid k1
      obtain ⟨y0, y1, y2, y3, y4, y5⟩ := SS.out w1 k1.of_no
      clear k1 RD c0 c1 c2 c3 c4 c5
      go_wp2_with fail
      go_region_held3 (fun w' => w'.cell? ⟨J, 0, none⟩ = some (.pointer (some ⟨D, 0, none⟩)) ∧ w'.cell? ⟨J, 1, none⟩ = some (.int .i64 h.seq) ∧ w'.cell? ⟨J, 2, none⟩ = some (.int .i64 h.bank) ∧ w'.cell? ⟨J, 3, none⟩ = some (.int .i64 h.size) ∧ w'.cell? ⟨J, 4, none⟩ = some (.int .i64 h.count) ∧ w'.cell? ⟨J, 5, none⟩ = some (.int .u32 h.sum)) (first | exact SS.out _ K1.out.of_no.drew | exact SS.out _ ka.out.of_no | exact SS.out _ kb.out) (first | (go_at_call 59; refine (HPG2.out _ K1.out.drew).mono ?_; rintro e wa ⟨rfl, ka⟩) | (go_at_call 58; refine (HWR.out _ ka.out).mono ?_; rintro e wb ⟨rfl, js, kb⟩))
      by_cases hE0 : E = 0
      · subst hE0
        obtain ⟨z0, _⟩ := SS.out wb kb.out
        have FL := Lib.hid (flush_ok wb js.out.p)
        obtain ⟨E2, hE2⟩ : ∃ x, d1.flushE = x := ⟨_, rfl⟩
        rw [hE2] at FL
        have HJ2 : Hid (jwrite d h i = (d1.flush, E2)) := Lib.hid (by rw [HJ.out, if_pos rfl, hE2])
        clear hE2 HJ SS HPG2 HWR
        go_wp2_with fail
        refine FL.out.mono ?_
        rintro e w2 ⟨rfl, h1, h2⟩
        go_wp2_with fail
        go_ret
        rw [HJ2.out]
        exact ⟨rfl, js.out.disk h1 h2, kb.out.trans h2⟩
      · have HJ2 : Hid (jwrite d h i = (d1, E)) := Lib.hid (by rw [HJ.out, if_neg hE0])
        have e1 : (E == 0) = false := by simpa using hE0
        clear HJ SS HPG2 HWR
        go_wp2_with fail
        go_ret
        rw [HJ2.out]
        exact ⟨rfl, js.out, kb.out⟩
    · rw [if_neg hc1] at hmark
      obtain rfl : m = 1 := by rw [← hm]; exact hmark
      have g2 : ¬ (c.toNat : Int) = 1 := fun e => hc1 (UInt8.toNat_inj.1 (by show c.toNat = 1; omega))
      have g1 : ((c.toNat : Int) == 1) = false := by simpa using g2
      clear hm hmark
      have HPG2 : Hid (∀ wx, Kept NoM w wx → Calls Try.prog 59 #[.agg #[.int .i64 h.seq, .int .i64 h.bank, .int .i64 h.size, .int .i64 h.count, .int .u32 h.sum], .int .u8 1] wx fun e w' => e = .returned (.string ⟨p.toArray⟩) ∧ Hid (Kept NoM w w')) := HPG
      clear HPG
      go_enter Try.func37, Try.ntmps37
      go_wp2_with fail
      refine RD.out.mono ?_
      rintro e w1 ⟨rfl, k1⟩
      have K1 := Lib.hid k1
      obtain ⟨y0, y1, y2, y3, y4, y5⟩ := SS.out w1 k1.of_no
      clear k1 RD c0 c1 c2 c3 c4 c5
      go_wp2_with fail
      go_region_held3 (fun w' => w'.cell? ⟨J, 0, none⟩ = some (.pointer (some ⟨D, 0, none⟩)) ∧ w'.cell? ⟨J, 1, none⟩ = some (.int .i64 h.seq) ∧ w'.cell? ⟨J, 2, none⟩ = some (.int .i64 h.bank) ∧ w'.cell? ⟨J, 3, none⟩ = some (.int .i64 h.size) ∧ w'.cell? ⟨J, 4, none⟩ = some (.int .i64 h.count) ∧ w'.cell? ⟨J, 5, none⟩ = some (.int .u32 h.sum)) (first | exact SS.out _ K1.out.of_no.drew | exact SS.out _ ka.out.of_no | exact SS.out _ kb.out) (first | (go_at_call 59; refine (HPG2.out _ K1.out.drew).mono ?_; rintro e wa ⟨rfl, ka⟩) | (go_at_call 58; refine (HWR.out _ ka.out).mono ?_; rintro e wb ⟨rfl, js, kb⟩))
      by_cases hE0 : E = 0
      · subst hE0
        obtain ⟨z0, _⟩ := SS.out wb kb.out
        have FL := Lib.hid (flush_ok wb js.out.p)
        obtain ⟨E2, hE2⟩ : ∃ x, d1.flushE = x := ⟨_, rfl⟩
        rw [hE2] at FL
        have HJ2 : Hid (jwrite d h i = (d1.flush, E2)) := Lib.hid (by rw [HJ.out, if_pos rfl, hE2])
        clear hE2 HJ SS HPG2 HWR
        go_wp2_with fail
        refine FL.out.mono ?_
        rintro e w2 ⟨rfl, h1, h2⟩
        go_wp2_with fail
        go_ret
        rw [HJ2.out]
        exact ⟨rfl, js.out.disk h1 h2, kb.out.trans h2⟩
      · have HJ2 : Hid (jwrite d h i = (d1, E)) := Lib.hid (by rw [HJ.out, if_neg hE0])
        have e1 : (E == 0) = false := by simpa using hE0
        clear HJ SS HPG2 HWR
        go_wp2_with fail
        go_ret
        rw [HJ2.out]
        exact ⟨rfl, js.out, kb.out⟩
end
end Go.Proofs.Ytjcmnobfdidnkaa
