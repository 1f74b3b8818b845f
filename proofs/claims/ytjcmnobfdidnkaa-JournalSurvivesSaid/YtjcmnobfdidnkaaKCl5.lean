/- For every number of pages, every script and all other arguments (for great ones the law only plays its example), the law JournalSurvives returns true and leaves its arguments as they were: it says that a failure of the power leaves the records from before a call, or those from behind it. -/
import Derived.Test.YtjcmnobfdidnkaaKFrameO
import Derived.Test.YtjcmnobfdidnkaaKF5
import Derived.Laws.IdiomArrays
set_option linter.unusedVariables false
set_option linter.unusedSimpArgs false
set_option linter.unusedSectionVars false
namespace Go.Proofs.Ytjcmnobfdidnkaa
open Go.ChangeShapes Go.WideShapes Go.ChangeAt Go.RowKit
theorem okWide_arr {P : Program} {w : World} {r : Reach} {base : Nat} {t e : TypeId} {n : Nat} {v : Value} (ht : P.underlying t = some (.array n e)) (h : Value.okWide P w r base t v) : ∃ cs, v = .agg cs ∧ cs.size = P.cellsOf t := by
  simp only [Value.okWide, ht] at h
  obtain ⟨cs, h1, h2, _⟩ := h
  exact ⟨cs, h1, h2⟩
theorem cells_tri : Try.prog.cellsOf 59 = 3 := by kernel_rfl
theorem cells_tis : Try.prog.cellsOf 61 = 3 := by kernel_rfl
theorem cells_ints : Try.prog.cellsOf 60 = 1 := by kernel_rfl
theorem three {cs : Array Value} (h : cs.size = 3) : ∃ a b c, cs = #[a, b, c] := by
  obtain ⟨l⟩ := cs
  match l, h with
  | [a, b, c], _ => exact ⟨a, b, c, rfl⟩
end Go.Proofs.Ytjcmnobfdidnkaa
namespace Go.Proofs.Ytjcmnobfdidnkaa.journalSurvives
open Go.ChangeShapes Go.WideShapes Go.ChangeAt Go.RowKit Go.ChangeMaps

set_option maxRecDepth 100000 in
theorem contract (H : Type) (enc : TypeId × Value → H) (W : World) (base : Nat) (args : Array Value) (ds gs : List (DataW H)) (before : List MemPlace)
    (hval : ∀ (j : Nat) t v, Try.f5.params[j]? = some t → args[j]? = some v → Value.okWide Try.prog W .any base t v)
    (hW : DataW.Whole enc Try.prog Try.f5.params.toList Rows.journalSurvivesSpec.vars false W args.toList ds gs before) :
    Calls Try.prog 5 args W fun e W' => ∃ v, e = .returned v ∧ Rows.journalSurvivesSpec.post enc Try.prog Try.f5 false true false false W args v W' := by
  have hlt : ∀ x ∈ before, x.block < W.heap.size := fun x hx => hW.lt x hx
  have hW' := hW
  obtain ⟨p, q, hA0, hV, rfl, hfz, hnd⟩ := hW
  have hA : DataW.TrodAll enc Try.prog W 0 (fun _ => true) true Try.f5.params.toList args.toList ds p := hA0
  rw [Try.params5] at hA hval
  obtain ⟨v0, vs0, d0, ds0, p0, q0, eargs, rfl, rfl, h0, hA0⟩ := trodAll_cons hA
  obtain ⟨v1, vs1, d1, ds1, p1, q1, rfl, rfl, rfl, h1, hA1⟩ := trodAll_cons hA0
  obtain ⟨v2, vs2, d2, ds2, p2, q2, rfl, rfl, rfl, h2, hA2⟩ := trodAll_cons hA1
  obtain ⟨v3, vs3, d3, ds3, p3, q3, rfl, rfl, rfl, h3, hA3⟩ := trodAll_cons hA2
  obtain ⟨v4, vs4, d4, ds4, p4, q4, rfl, rfl, rfl, h4, hA4⟩ := trodAll_cons hA3
  obtain ⟨rfl, rfl, rfl⟩ := trodAll_nil hA4
  obtain rfl : args = #[v0, v1, v2, v3, v4] := by cases args; simp_all
  obtain ⟨rfl, rfl⟩ := trodVars_none hV
  have h0k := h0
  have h1k := h1
  have h2k := h2
  have h3k := h3
  have h4k := h4
  obtain ⟨n0, rfl, _, _, wf0⟩ := open_int Try.underlying3 (hval 0 3 v0 rfl rfl) h0
  have b0 := bounds_i64 wf0
  obtain ⟨a1, len1, cap1, rfl⟩ := okWide_slice Try.underlying22 (hval 1 22 v1 rfl rfl)
  obtain ⟨fuel1, hf1⟩ := h1
  obtain ⟨l1, r1⟩ := ops_of hf1
  obtain ⟨cs2, rfl, hcs2⟩ := okWide_struct Try.underlying38 (hval 2 38 v2 rfl rfl)
  obtain ⟨fuel2, hf2⟩ := h2
  obtain ⟨o2, ho2, _, _⟩ := jo_of (cs := cs2.toList) (by rw [cellsOp] at hcs2; simpa using hcs2) hf2
  obtain rfl : cs2 = joC o2 := by unfold EJo at ho2; exact Array.toList_inj.1 ho2
  obtain ⟨cs3, rfl, hcs3⟩ := okWide_arr Try.underlying59 (hval 3 59 v3 rfl rfl)
  obtain ⟨u3, v3, w3, rfl⟩ := three (hcs3.trans cells_tri)
  obtain ⟨fuel3, hf3⟩ := h3
  obtain ⟨y30, y31, y32, fu3, _, g30, g31, g32⟩ := trod_array3 Try.underlying59 cellsByte hf3
  obtain ⟨n30, ey30, _, wf30⟩ := DataW.trod_int Try.underlying5 g30
  obtain rfl : u3 = .int .u8 n30 := by simpa using ey30
  have b30 := bounds_u8 wf30
  obtain ⟨n31, ey31, _, wf31⟩ := DataW.trod_int Try.underlying5 g31
  obtain rfl : v3 = .int .u8 n31 := by simpa using ey31
  have b31 := bounds_u8 wf31
  obtain ⟨n32, ey32, _, wf32⟩ := DataW.trod_int Try.underlying5 g32
  obtain rfl : w3 = .int .u8 n32 := by simpa using ey32
  have b32 := bounds_u8 wf32
  obtain ⟨cs4, rfl, hcs4⟩ := okWide_arr Try.underlying61 (hval 4 61 v4 rfl rfl)
  obtain ⟨u4, v4, w4, rfl⟩ := three (hcs4.trans cells_tis)
  obtain ⟨fuel4, hf4⟩ := h4
  obtain ⟨y40, y41, y42, fu4, _, g40, g41, g42⟩ := trod_array3 Try.underlying61 cells_ints hf4
  obtain ⟨a40, c40, z40, rfl, r40⟩ := ints_of g40
  obtain ⟨a41, c41, z41, rfl, r41⟩ := ints_of g41
  obtain ⟨a42, c42, z42, rfl, r42⟩ := ints_of g42
  have walk : Calls Try.prog 5 #[.int .i64 n0, .slice a1 len1 cap1, .agg (joC o2), .agg #[.int .u8 n30, .int .u8 n31, .int .u8 n32], .agg #[.slice a40 z40.length c40, .slice a41 z41.length c41, .slice a42 z42.length c42]] W fun e w' => e = .returned (.bool true) ∧ Kept NoM W w' := surv_ok n0 _ l1 o2 n30 n31 n32 z40 z41 z42 a40 a41 a42 c40 c41 c42 W r1 ⟨b30, b31, b32⟩ r40 r41 r42
  refine walk.mono fun e W' ⟨he, hg⟩ => ?_
  subst he
  have hb := hg.below
  refine ⟨_, rfl, post_of_below (pa := p0 ++ (p1 ++ (p2 ++ (p3 ++ (p4 ++ []))))) (pv := []) hW' (fun _ _ _ => trodAll_mk1 (shut_bool Try.underlying4 _)) (fun sp hsp => (trodAll_cons_mk (stays (by kernel_rfl) (of_decide_eq_true (by kernel_rfl)) h0k hb (fun x hx => hlt x (by simp [hx])) (fun x hx => hsp x (by simp [hx]))) (trodAll_cons_mk (stays (by kernel_rfl) (of_decide_eq_true (by kernel_rfl)) h1k hb (fun x hx => hlt x (by simp [hx])) (fun x hx => hsp x (by simp [hx]))) (trodAll_cons_mk (stays (by kernel_rfl) (of_decide_eq_true (by kernel_rfl)) h2k hb (fun x hx => hlt x (by simp [hx])) (fun x hx => hsp x (by simp [hx]))) (trodAll_cons_mk (stays (by kernel_rfl) (of_decide_eq_true (by kernel_rfl)) h3k hb (fun x hx => hlt x (by simp [hx])) (fun x hx => hsp x (by simp [hx]))) (trodAll_cons_mk (stays (by kernel_rfl) (of_decide_eq_true (by kernel_rfl)) h4k hb (fun x hx => hlt x (by simp [hx])) (fun x hx => hsp x (by simp [hx]))) trodAll_mk0)))))) (fun _ _ => rfl) rfl hb (ok_one (by kernel_rfl) rfl (okWide_bool_mk Try.underlying4 _))⟩

theorem laid_met (os : Os) : laidMet Try.prog Rows.journalSurvivesRow.laid ((World.holding Try.prog os ⟨#[], #[], []⟩).forCall (fun _ _ => 0) ⟨#[], #[.int .i64 0, .slice none 0 0, .agg #[.int .i64 0, .int .i64 0, .int .i64 0, .int .u8 0], .agg #[.int .u8 0, .int .u8 0, .int .u8 0], .agg #[.slice none 0 0, .slice none 0 0, .slice none 0 0]], []⟩).memory :=
  laidMet_of_run' 8 (by kernel_rfl) (by kernel_rfl)
theorem reads (os : Os) {H : Type} (enc : TypeId × Value → H) : ∃ places, DataW.whole enc Try.prog ((World.holding Try.prog os ⟨#[], #[], []⟩).forCall (fun _ _ => 0) ⟨#[], #[.int .i64 0, .slice none 0 0, .agg #[.int .i64 0, .int .i64 0, .int .i64 0, .int .u8 0], .agg #[.int .u8 0, .int .u8 0, .int .u8 0], .agg #[.slice none 0 0, .slice none 0 0, .slice none 0 0]], []⟩).memory Try.f5.params.toList Rows.journalSurvivesSpec.vars false #[Value.int .i64 0, .slice none 0 0, .agg #[.int .i64 0, .int .i64 0, .int .i64 0, .int .u8 0], .agg #[.int .u8 0, .int .u8 0, .int .u8 0], .agg #[.slice none 0 0, .slice none 0 0, .slice none 0 0]].toList 8 = some ([.lit (.int .i64 0), .nil, .agg [.lit (.int .i64 0), .lit (.int .i64 0), .lit (.int .i64 0), .lit (.int .u8 0)], .agg [.lit (.int .u8 0), .lit (.int .u8 0), .lit (.int .u8 0)], .agg [.nil, .nil, .nil]], [], places) :=
  ⟨[], by kernel_rfl⟩

set_option maxRecDepth 100000 in
theorem lifted (os : Os) (started : os.Started) (H : Type) (enc : TypeId × Value → H) (F : Stop.Interp) :
    ReturnsInHanded {} Try.checked os 5 .any ((OpenSpec.ofChange Rows.journalSurvivesSpec).preRow enc Try.prog Try.f5 Rows.journalSurvivesRow.domain false Rows.journalSurvivesRow.laid) (((OpenSpec.ofChange Rows.journalSurvivesSpec).at F).post enc Try.prog Try.f5 false true false false) := by
  obtain ⟨places, hx⟩ := reads os enc
  refine returnsInHanded_of_row (C := Try.checked) (s := OpenSpec.ofChange Rows.journalSurvivesSpec) own started (by kernel_rfl) Try.func5
    (witness_row_at (enc := enc) (C := Try.checked) false (World.holding Try.prog os ⟨#[], #[], []⟩) #[.int .i64 0, .slice none 0 0, .agg #[.int .i64 0, .int .i64 0, .int .i64 0, .int .u8 0], .agg #[.int .u8 0, .int .u8 0, .int .u8 0], .agg #[.slice none 0 0, .slice none 0 0, .slice none 0 0]] rfl (by kernel_rfl) (by kernel_rfl) (by kernel_rfl)
      (OpenSpec.preRow_of_cond 8 hx (by kernel_rfl) (fun k hk => by cases hk) (by kernel_rfl) (laid_met os))) ?_
  intro W base args ds gs before hval hW _ _ _ _ _ _
  exact contract H enc W base args ds gs before hval hW
end Go.Proofs.Ytjcmnobfdidnkaa.journalSurvives
namespace Go.Proofs.Ytjcmnobfdidnkaa
/-- THE LAW -/
theorem journalSurvives_said : Rows.JournalSurvivesSaid :=
  OpenClaim.holds_of_cond 5 Try.f5 rfl rfl rfl rfl rfl rfl rfl ⟨rfl, rfl, rfl, rfl, rfl⟩ rfl rfl rfl rfl rfl (by kernel_rfl) Try.func5 (by kernel_rfl)
    (of_decide_eq_true (by kernel_rfl)) (by unfold Func.isWrapper; first | (rw [if_pos (by decide +kernel)]; kernel_rfl) | (rw [if_neg (by decide +kernel)]; exact ⟨rfl, rfl⟩))
    (fun os started H enc _ F => by rw [OpenClaim.pre_eq_preRow]; exact journalSurvives.lifted os started H enc F)
end Go.Proofs.Ytjcmnobfdidnkaa
