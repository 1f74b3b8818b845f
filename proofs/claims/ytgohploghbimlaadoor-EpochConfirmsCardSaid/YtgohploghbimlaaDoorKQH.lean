/- Walk: the law's sanity. -/
import Derived.Test.YtgohploghbimlaaDoorKQE
import Derived.Test.YtgohploghbimlaaDoorKPB
import Derived.Test.YtgohploghbimlaaDoorKWR
set_option linter.unusedVariables false
set_option linter.unusedSimpArgs false
set_option linter.unusedSectionVars false
namespace Go.Proofs.YtgohploghbimlaaDoor
open Go.RowKit
set_option maxHeartbeats 3000000
set_option maxRecDepth 4000

theorem sanity_ok (w : World) : Calls Tryd.prog 7 #[] w fun e w' => e = .returned (.bool true) ∧ Kept NoM w w' := by
  go_enter Tryd.func7, Tryd.ntmps7
  go_wp2_with fail
  refine (three_ok _).mono ?_
  rintro e w1 ⟨a, cap, O, rfl, own, hn, k1⟩
  have S0 : San 3 w (w1.alloc (.cells #[.slice a 3 cap, .slice none 0 0] 27)) w1.heap.size ex0 :=
    san_new (O := O) WOk.ex0 (blk_new _ _) (own.kept ((Kept.refl NoM w1).alloc _) (fun _ _ x => x) (fun _ _ h => h)) k1.size (fun g hg => ⟨by rcases hn with rfl | ⟨g', rfl, h2⟩ <;> cases hg; omega, by have := own.lt g hg; omega⟩) (k1.alloc _)
  have K1 := Lib.hid k1
  clear own hn k1
  have HS0 := Lib.hid S0
  obtain ⟨g0, cap0, zW0, zg0, r0, rows0⟩ := S0.reps (by decide)
  obtain ⟨la0, lc0, va0, vc0, ma0, mc0, f0, q1, q2, q3⟩ := rows0 0 _ rfl
  have c0 : (w1.alloc (.cells #[.slice a 3 cap, .slice none 0 0] 27)).cell? ⟨g0, 0, none⟩ = some (.int .i64 0) := f0 0 _ rfl
  have c1 : (w1.alloc (.cells #[.slice a 3 cap, .slice none 0 0] 27)).cell? ⟨g0, 1, none⟩ = some (.int .i64 3) := f0 1 _ rfl
  have c2 : (w1.alloc (.cells #[.slice a 3 cap, .slice none 0 0] 27)).cell? ⟨g0, 2, none⟩ = some (.int .i64 0) := f0 2 _ rfl
  have c3 : (w1.alloc (.cells #[.slice a 3 cap, .slice none 0 0] 27)).cell? ⟨g0, 3, none⟩ = some (.int .i64 (-1)) := f0 3 _ rfl
  have c4 : (w1.alloc (.cells #[.slice a 3 cap, .slice none 0 0] 27)).cell? ⟨g0, 4, none⟩ = some (.int .i64 1) := f0 4 _ rfl
  have c5 : (w1.alloc (.cells #[.slice a 3 cap, .slice none 0 0] 27)).cell? ⟨g0, 5, none⟩ = some (.slice la0 0 lc0) := f0 5 _ rfl
  have c6 : (w1.alloc (.cells #[.slice a 3 cap, .slice none 0 0] 27)).cell? ⟨g0, 6, none⟩ = some (.int .i64 0) := f0 6 _ rfl
  have c7 : (w1.alloc (.cells #[.slice a 3 cap, .slice none 0 0] 27)).cell? ⟨g0, 7, none⟩ = some (.slice va0 0 vc0) := f0 7 _ rfl
  have c8 : (w1.alloc (.cells #[.slice a 3 cap, .slice none 0 0] 27)).cell? ⟨g0, 8, none⟩ = some (.slice ma0 0 mc0) := f0 8 _ rfl
  have HV := Lib.hid (rvalid_ok (newR 0) _ _ _ _ q1 q2 q3 (Valid.newF (by omega) (by omega) (by omega)))
  have r0 : (w1.alloc (.cells #[.slice a 3 cap, .slice none 0 0] 27)).cell? ⟨w1.heap.size, 0, none⟩ = some (.slice (some ⟨g0, 0, none⟩) 3 cap0) := r0
  clear f0 q1 q2 q3 rows0 S0
  go_wp2_with fail
  refine HV.out.mono ?_
  rintro e y0 ⟨rfl, ky0⟩
  have HT0' := HS0.out.kept ky0
  clear ky0 c0 c1 c2 c3 c4 c5 c6 c7 c8 r0 zW0 zg0 HV HS0 K1
  generalize w1.heap.size = W at *
  have HT0 := Lib.hid HT0'
  clear HT0'
  go_wp2_with fail
  refine (san_play (fun _ => T7) HT0.out (by decide) (by decide) (ex_1 (fun _ => T7)) (fun h => by cases h)).mono ?_
  rintro e x1 ⟨rfl, S1⟩
  have HT1 := Lib.hid S1
  obtain ⟨g1, cap1, zW1, zg1, r1, rows1⟩ := S1.reps (by decide)
  have r1 : x1.cell? ⟨W, 0, none⟩ = some (.slice (some ⟨g1, 0, none⟩) 3 cap1) := r1
  obtain ⟨la1, lc1, va1, vc1, ma1, mc1, f1, _, _, _⟩ := rows1 0 _ rfl
  have c1_4 : x1.cell? ⟨g1, 4, none⟩ = some (.int .i64 2) := f1 4 _ rfl
  have c1_2 : x1.cell? ⟨g1, 2, none⟩ = some (.int .i64 1) := f1 2 _ rfl
  clear f1 rows1
  obtain ⟨ll1, lk1, zL1, l1, lrows1⟩ := S1.lets
  have l1 : x1.cell? ⟨W, 1, none⟩ = some (.slice ll1 2 lk1) := l1
  clear lrows1
  clear S1
  go_wp2_with fail
  refine (san_play (fun _ => T7) HT1.out (by decide) (by decide) (ex_2 (fun _ => T7)) (fun h => by cases h)).mono ?_
  rintro e x2 ⟨rfl, S2⟩
  have HT2 := Lib.hid S2
  clear  r1 zW1 zg1 c1_4 c1_2 l1 zL1
  clear S2
  go_wp2_with fail
  refine (san_play (fun _ => T7) HT2.out (by decide) (by decide) (ex_3 (fun _ => T7)) (fun h => by cases h)).mono ?_
  rintro e x3 ⟨rfl, S3⟩
  have HT3 := Lib.hid S3
  obtain ⟨g3, cap3, zW3, zg3, r3, rows3⟩ := S3.reps (by decide)
  have r3 : x3.cell? ⟨W, 0, none⟩ = some (.slice (some ⟨g3, 0, none⟩) 3 cap3) := r3
  obtain ⟨la3, lc3, va3, vc3, ma3, mc3, f3, _, _, _⟩ := rows3 0 _ rfl
  have c3_4 : x3.cell? ⟨g3, 4, none⟩ = some (.int .i64 3) := f3 4 _ rfl
  clear f3 rows3
  obtain ⟨ll3, lk3, zL3, l3, lrows3⟩ := S3.lets
  have l3 : x3.cell? ⟨W, 1, none⟩ = some (.slice ll3 5 lk3) := l3
  clear lrows3
  clear S3
  go_wp2_with fail
  refine (san_play (fun _ => T7) HT3.out (by decide) (by decide) (ex_4 (fun _ => T7) rfl) (fun _ W1 _ => itoa7 W1)).mono ?_
  rintro e x4 ⟨rfl, S4⟩
  have HT4 := Lib.hid S4
  clear  r3 zW3 zg3 c3_4 l3 zL3
  obtain ⟨ll4, lk4, zL4, l4, lrows4⟩ := S4.lets
  have l4 : x4.cell? ⟨W, 1, none⟩ = some (.slice ll4 7 lk4) := l4
  clear lrows4
  clear S4
  go_wp2_with fail
  refine (san_play (fun _ => T7) HT4.out (by decide) (by decide) (ex_5 (fun _ => T7)) (fun h => by cases h)).mono ?_
  rintro e x5 ⟨rfl, S5⟩
  have HT5 := Lib.hid S5
  clear  l4 zL4
  clear S5
  go_wp2_with fail
  refine (san_play (fun _ => T7) HT5.out (by decide) (by decide) (ex_6 (fun _ => T7)) (fun h => by cases h)).mono ?_
  rintro e x6 ⟨rfl, S6⟩
  have HT6 := Lib.hid S6
  obtain ⟨g6, cap6, zW6, zg6, r6, rows6⟩ := S6.reps (by decide)
  have r6 : x6.cell? ⟨W, 0, none⟩ = some (.slice (some ⟨g6, 0, none⟩) 3 cap6) := r6
  obtain ⟨la6, lc6, va6, vc6, ma6, mc6, f6, q1, q2, q3⟩ := rows6 0 _ rfl
  have c6_0 : x6.cell? ⟨g6, 0, none⟩ = some (.int .i64 0) := f6 0 _ rfl
  have c6_1 : x6.cell? ⟨g6, 1, none⟩ = some (.int .i64 3) := f6 1 _ rfl
  have c6_2 : x6.cell? ⟨g6, 2, none⟩ = some (.int .i64 1) := f6 2 _ rfl
  have c6_3 : x6.cell? ⟨g6, 3, none⟩ = some (.int .i64 0) := f6 3 _ rfl
  have c6_4 : x6.cell? ⟨g6, 4, none⟩ = some (.int .i64 3) := f6 4 _ rfl
  have c6_5 : x6.cell? ⟨g6, 5, none⟩ = some (.slice la6 1 lc6) := f6 5 _ rfl
  have c6_6 : x6.cell? ⟨g6, 6, none⟩ = some (.int .i64 1) := f6 6 _ rfl
  have c6_7 : x6.cell? ⟨g6, 7, none⟩ = some (.slice va6 0 vc6) := f6 7 _ rfl
  have c6_8 : x6.cell? ⟨g6, 8, none⟩ = some (.slice ma6 3 mc6) := f6 8 _ rfl
  have HC := Lib.hid (confirmed_ok ⟨0, 3, 1, 0, 3, [⟨1, T7⟩], 1, [], [1, 1, 0]⟩ _ _ _ _ q1 q2 q3 (by decide) (by decide) (by decide))
  clear f6 q1 q2 q3 rows6 S6
  go_wp2_with fail
  refine HC.out.mono ?_
  rintro e y6 ⟨v6, Oc, rfl, own6, _, ky6⟩
  obtain ⟨gc, kc, cc, rfl, _, hgc, _, _, _, htc⟩ := own6.open1 (f := Value.string) (fun c x h => h) (by decide)
  have zgc := lt_of_block hgc
  have hcc : y6.cell? ⟨gc, 0, none⟩ = some (.string ⟨#[55]⟩) := cell_blk hgc 0 _ (take_at (xs := confirmedF ⟨0, 3, 1, 0, 3, [⟨1, T7⟩], 1, [], [1, 1, 0]⟩) (f := Value.string) (i := 0) (x := T7) htc rfl)
  have HT6' := Lib.hid (HT6.out.kept ky6)
  clear HT6 own6 hgc htc ky6 r6 zW6 zg6 HC c6_0 c6_1 c6_2 c6_3 c6_4 c6_5 c6_6 c6_7 c6_8
  have HT6 := HT6'
  clear HT6'
  rw [show (confirmedF ⟨0, 3, 1, 0, 3, [⟨1, T7⟩], 1, [], [1, 1, 0]⟩).length = 1 from rfl]
  go_wp2_with fail
  refine (san_play (fun _ => T7) HT6.out (by decide) (by decide) (ex_7 (fun _ => T7)) (fun h => by cases h)).mono ?_
  rintro e x7 ⟨rfl, S7⟩
  have HT7 := Lib.hid S7
  clear  hcc zgc
  clear S7
  go_wp2_with fail
  refine (san_play (fun _ => T7) HT7.out (by decide) (by decide) (ex_8 (fun _ => T7)) (fun h => by cases h)).mono ?_
  rintro e x8 ⟨rfl, S8⟩
  have HT8 := Lib.hid S8
  obtain ⟨ll8, lk8, zL8, l8, lrows8⟩ := S8.lets
  have l8 : x8.cell? ⟨W, 1, none⟩ = some (.slice ll8 12 lk8) := l8
  obtain ⟨bb8, rfl, zb8, m2_8, m8_8⟩ := lrows8 11 _ rfl
  have m8 : x8.cell? ⟨bb8, 101, none⟩ = some (.int .i64 1) := m2_8
  clear m2_8 m8_8
  clear lrows8
  clear S8
  go_wp2_with fail
  refine (san_play (fun _ => T7) HT8.out (by decide) (by decide) (ex_9 (fun _ => T7)) (fun h => by cases h)).mono ?_
  rintro e x9 ⟨rfl, S9⟩
  have HT9 := Lib.hid S9
  clear  l8 zL8 m8 zb8
  obtain ⟨g9, cap9, zW9, zg9, r9, rows9⟩ := S9.reps (by decide)
  have r9 : x9.cell? ⟨W, 0, none⟩ = some (.slice (some ⟨g9, 0, none⟩) 3 cap9) := r9
  obtain ⟨la9, lc9, va9, vc9, ma9, mc9, f9, _, _, _⟩ := rows9 1 _ rfl
  have c9_11 : x9.cell? ⟨g9, 11, none⟩ = some (.int .i64 2) := f9 2 _ rfl
  clear f9 rows9
  obtain ⟨ll9, lk9, zL9, l9, lrows9⟩ := S9.lets
  have l9 : x9.cell? ⟨W, 1, none⟩ = some (.slice ll9 13 lk9) := l9
  obtain ⟨bb9, rfl, zb9, m2_9, m8_9⟩ := lrows9 12 _ rfl
  have m9 : x9.cell? ⟨bb9, 116, none⟩ = some (.bool false) := m8_9
  clear m2_9 m8_9
  clear lrows9
  clear S9
  go_wp2_with fail
  refine (san_play (fun _ => T7) HT9.out (by decide) (by decide) (ex_10 (fun _ => T7)) (fun h => by cases h)).mono ?_
  rintro e x10 ⟨rfl, S10⟩
  have HT10 := Lib.hid S10
  clear  r9 zW9 zg9 c9_11 l9 zL9 m9 zb9
  obtain ⟨g10, cap10, zW10, zg10, r10, rows10⟩ := S10.reps (by decide)
  have r10 : x10.cell? ⟨W, 0, none⟩ = some (.slice (some ⟨g10, 0, none⟩) 3 cap10) := r10
  obtain ⟨la10, lc10, va10, vc10, ma10, mc10, f10, _, _, _⟩ := rows10 0 _ rfl
  have c10_4 : x10.cell? ⟨g10, 4, none⟩ = some (.int .i64 1) := f10 4 _ rfl
  have c10_2 : x10.cell? ⟨g10, 2, none⟩ = some (.int .i64 2) := f10 2 _ rfl
  clear f10 rows10
  clear S10
  go_wp2_with fail
  refine (san_play (fun _ => T7) HT10.out (by decide) (by decide) (ex_11 (fun _ => T7)) (fun h => by cases h)).mono ?_
  rintro e x11 ⟨rfl, S11⟩
  have HT11 := Lib.hid S11
  clear  r10 zW10 zg10 c10_4 c10_2
  obtain ⟨ll11, lk11, zL11, l11, lrows11⟩ := S11.lets
  have l11 : x11.cell? ⟨W, 1, none⟩ = some (.slice ll11 16 lk11) := l11
  clear lrows11
  clear S11
  go_wp2_with fail
  refine (san_play (fun _ => T7) HT11.out (by decide) (by decide) (ex_12 (fun _ => T7)) (fun h => by cases h)).mono ?_
  rintro e x12 ⟨rfl, S12⟩
  have HT12 := Lib.hid S12
  clear  l11 zL11
  clear S12
  go_wp2_with fail
  refine (san_play (fun _ => T7) HT12.out (by decide) (by decide) (ex_13 (fun _ => T7)) (fun h => by cases h)).mono ?_
  rintro e x13 ⟨rfl, S13⟩
  have HT13 := Lib.hid S13
  clear S13
  go_wp2_with fail
  refine (newNot_ok 3 3 (by omega) (by omega) (by omega) _).mono ?_
  rintro e y13 ⟨rfl, k13⟩
  have T14 := HT13.out.kept k13
  clear HT13 k13
  have T15 := T14.kept ((Kept.refl NoM y13).alloc (.cells #[.int .i64 0, .int .i64 0, .int .i64 0, .int .i64 0, .int .i64 0, .slice none 0 0, .int .i64 0, .slice none 0 0, .slice none 0 0] 32 (0, 0)))
  obtain ⟨g13, cap13, zW13, zg13, r13, rows13⟩ := T14.reps (by decide)
  have r13 : y13.cell? ⟨W, 0, none⟩ = some (.slice (some ⟨g13, 0, none⟩) 3 cap13) := r13
  obtain ⟨la13, lc13, va13, vc13, ma13, mc13, f13, _, _, _⟩ := rows13 1 _ rfl
  have c13_13 : y13.cell? ⟨g13, 13, none⟩ = some (.int .i64 3) := f13 4 _ rfl
  have c13_11 : y13.cell? ⟨g13, 11, none⟩ = some (.int .i64 3) := f13 2 _ rfl
  have c13_14 : y13.cell? ⟨g13, 14, none⟩ = some (.slice la13 1 lc13) := f13 5 _ rfl
  have KF := Lib.hid T15.base
  clear f13 rows13 T14 T15
  go_wp2_with (first | (go_at_call 17; refine (admit_ge 2 3 (by omega) _).mono ?_; rintro e w' ⟨rfl, rfl⟩) | (go_at_call 17; refine (admit_lt 3 2 (by omega) _).mono ?_; rintro e w' ⟨rfl, rfl⟩))
  go_ret
  exact ⟨rfl, KF.out⟩
end Go.Proofs.YtgohploghbimlaaDoor
