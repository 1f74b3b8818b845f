/- For every count, every number of a replica and every list of numbers (for a count outside 1 to 5, a number of no replica or more than 20 numbers the law only plays the documentation's examples), the law EpochConfirms returns true and leaves its arguments as they were: behind the events of one leader every replica has confirmed the numbers' texts, in their order. The table of powers of ten holds what the program's text lays. -/
import Derived.Test.YtgohploghbimlaaDoorCards
import Derived.Test.YtgohploghbimlaaDoorTie
import Derived.Test.YtgohploghbimlaaDoorKFrame
import Derived.Test.YtgohploghbimlaaDoorKQM
import Derived.ChangeSlices
set_option linter.unusedVariables false
set_option linter.unusedSimpArgs false
set_option linter.unusedSectionVars false
namespace Go.Proofs.YtgohploghbimlaaDoor.epochConfirms
open Go.ChangeShapes Go.WideShapes Go.ChangeAt Go.RowKit

set_option maxRecDepth 100000 in
theorem contract (H : Type) (enc : TypeId × Value → H) (W : World) (base : Nat) (args : Array Value) (ds gs : List (DataW H)) (before : List MemPlace)
    (hval : ∀ (j : Nat) t v, Tryd.f5.params[j]? = some t → args[j]? = some v → Value.okWide Tryd.prog W .any base t v)
    (hW : DataW.Whole enc Tryd.prog Tryd.f5.params.toList Rows.epochConfirmsSpec.vars false W args.toList ds gs before) (hL : laidMetH Tryd.prog Rows.epochConfirmsRow.laid W) :
    Calls Tryd.prog 5 args W fun e W' => ∃ v, e = .returned v ∧ Rows.epochConfirmsSpec.post enc Tryd.prog Tryd.f5 false true false false W args v W' := by
  have hlt : ∀ x ∈ before, x.block < W.heap.size := fun x hx => hW.lt x hx
  have hW' := hW
  obtain ⟨p, q, hA0, hV, rfl, hfz, hnd⟩ := hW
  have hA : DataW.TrodAll enc Tryd.prog W 0 (fun _ => true) true Tryd.f5.params.toList args.toList ds p := hA0
  rw [Tryd.params5] at hA hval
  obtain ⟨v0, v1, v2, d0, d1, d2, p0, p1, p2, rfl, rfl, rfl, h0, h1, h2⟩ := trodAll_three hA
  obtain ⟨rfl, rfl⟩ := trodVars_none hV
  have h0k := h0
  have h1k := h1
  have h2k := h2
  obtain ⟨count, rfl, _, _, _⟩ := open_int Tryd.underlying3 (hval 0 3 v0 rfl rfl) h0
  obtain ⟨id, rfl, _, _, _⟩ := open_int Tryd.underlying3 (hval 1 3 v1 rfl rfl) h1
  have htab : PowTab W := ⟨by
    have h := (pow_tab hL).cell gPow 0 (by decide)
    have := World.block_lt_of_cell? W _ h
    exact this, pow_tab hL⟩
  have walk : Calls Tryd.prog 5 #[.int .i64 count, .int .i64 id, v2] W fun e w' => e = .returned (.bool true) ∧ Kept NoM W w' := by
    obtain ⟨fuel, h2⟩ := h2
    rcases open_ints Tryd.underlying47 Tryd.underlying5 (by kernel_rfl) h2 with ⟨hc, _⟩ | ⟨a, len, cap, zs, hc, _, hl, _, hz, _, hcell, hwf⟩
    · have hv : v2 = .slice none 0 0 := by
        obtain ⟨a', l', c', rfl⟩ := okWide_slice Tryd.underlying47 (hval 2 47 v2 rfl rfl)
        simpa [Value.cells] using hc
      subst hv
      exact confirms_ok count id none 0 [] W (fun i x hx => by simp at hx) (fun b hb => by simp at hb) htab
    · have hv : v2 = .slice (some a) len cap := by
        obtain ⟨a', l', c', rfl⟩ := okWide_slice Tryd.underlying47 (hval 2 47 v2 rfl rfl)
        simpa [Value.cells] using hc
      subst hv
      have hzl : zs.length = cap := by simpa using hz
      have hlen : (zs.take len).length = len := by rw [List.length_take]; omega
      have := confirms_ok count id (some a) cap (zs.take len) W (fun i x hx => by
        have hi : i < len := by have := (List.getElem?_eq_some_iff.1 hx).1; omega
        obtain ⟨b, off, e1, hc2⟩ := ints_at hcell (by omega)
        refine ⟨b, off, by rw [e1], ?_⟩
        rw [hc2 i (by omega)]
        rw [List.getElem?_take, if_pos hi] at hx
        simp [hx]) (fun b hb => bounds_u8 (hwf b (List.mem_of_mem_take hb))) htab
      rw [hlen] at this
      exact this
  refine walk.mono fun e W' ⟨he, hg⟩ => ?_
  subst he
  have hb := hg.below
  refine ⟨_, rfl, post_of_below (pa := p0 ++ (p1 ++ p2)) (pv := []) hW' (fun _ _ _ => trodAll_mk1 (shut_bool Tryd.underlying4 _)) (fun sp hsp => trodAll_mk3 (stays (by kernel_rfl) (of_decide_eq_true (by kernel_rfl)) h0k hb (fun x hx => hlt x (by simp [hx])) (fun x hx => hsp x (by simp [hx])))
    (stays (by kernel_rfl) (of_decide_eq_true (by kernel_rfl)) h1k hb (fun x hx => hlt x (by simp [hx])) (fun x hx => hsp x (by simp [hx])))
    (stays (by kernel_rfl) (of_decide_eq_true (by kernel_rfl)) h2k hb (fun x hx => hlt x (by simp [hx])) (fun x hx => hsp x (by simp [hx])))) (fun _ _ => rfl) (by simp) hb (ok_one (by kernel_rfl) rfl (okWide_bool_mk Tryd.underlying4 _))⟩

theorem laid_met (os : Os) : laidMet Tryd.prog Rows.epochConfirmsRow.laid ((laidWorld os).forCall (fun _ _ => 0) ⟨#[], #[.int .i64 0, .int .i64 0, .slice none 0 0], []⟩).memory :=
  laidMet_of_run' 8 (by kernel_rfl) (by kernel_rfl)
theorem reads (os : Os) {H : Type} (enc : TypeId × Value → H) : ∃ places, DataW.whole enc Tryd.prog ((laidWorld os).forCall (fun _ _ => 0) ⟨#[], #[.int .i64 0, .int .i64 0, .slice none 0 0], []⟩).memory Tryd.f5.params.toList Rows.epochConfirmsSpec.vars false #[Value.int .i64 0, .int .i64 0, .slice none 0 0].toList 8 = some ([.lit (.int .i64 0), .lit (.int .i64 0), .nil], [], places) :=
  ⟨[], by kernel_rfl⟩

set_option maxRecDepth 100000 in
theorem lifted (os : Os) (started : os.Started) (H : Type) (enc : TypeId × Value → H) (F : Stop.Interp) :
    ReturnsInHanded {} Tryd.checked os 5 .any ((OpenSpec.ofChange Rows.epochConfirmsSpec).preRow enc Tryd.prog Tryd.f5 Rows.epochConfirmsRow.domain false Rows.epochConfirmsRow.laid) (((OpenSpec.ofChange Rows.epochConfirmsSpec).at F).post enc Tryd.prog Tryd.f5 false true false false) := by
  obtain ⟨places, hx⟩ := reads os enc
  refine returnsInHanded_of_row (C := Tryd.checked) (s := OpenSpec.ofChange Rows.epochConfirmsSpec) own started (by kernel_rfl) Tryd.func5
    (witness_row_at (enc := enc) (C := Tryd.checked) false (laidWorld os) #[.int .i64 0, .int .i64 0, .slice none 0 0] rfl (by kernel_rfl) (by kernel_rfl) (by kernel_rfl)
      (OpenSpec.preRow_of_cond 8 hx (by kernel_rfl) (fun k hk => by cases hk) (by kernel_rfl) (laid_met os))) ?_
  intro W base args ds gs before hval hW _ _ _ hL _ _
  exact contract H enc W base args ds gs before hval hW hL

theorem said : Rows.EpochConfirmsSaid :=
  OpenClaim.holds_of_cond 5 Tryd.f5 rfl rfl rfl rfl rfl rfl rfl ⟨rfl, rfl, rfl, rfl, rfl⟩ rfl rfl rfl rfl rfl (by kernel_rfl) Tryd.func5 (by kernel_rfl)
    (of_decide_eq_true (by kernel_rfl)) (by unfold Func.isWrapper; first | (rw [if_pos (by decide +kernel)]; kernel_rfl) | (rw [if_neg (by decide +kernel)]; exact ⟨rfl, rfl⟩))
    (fun os started H enc _ F => by rw [OpenClaim.pre_eq_preRow]; exact lifted os started H enc F)

theorem plain (f : FuncId) (fn : Func) (hf : Tryd.pinned.checked.prog.funcNamed "interlace/interlacelaw41.EpochConfirms" = some f) (hfn : Tryd.pinned.checked.prog.funcs[f]? = some fn) :
    false = Tryd.pinned.checked.prog.looks [] ∧ ∀ (j : Nat) t, fn.params[j]? = some t → Tryd.pinned.checked.prog.wantsStandIn t = false := by
  obtain rfl : f = 5 := Option.some.inj ((show Tryd.prog.funcNamed "interlace/interlacelaw41.EpochConfirms" = some 5 by kernel_rfl).symm.trans hf) |>.symm
  obtain rfl : fn = Tryd.f5 := (Option.some.inj (Tryd.func5.symm.trans hfn)).symm
  refine ⟨by kernel_rfl, fun j t ht => ?_⟩
  rw [Tryd.params5] at ht
  have h : t = 3 ∨ t = 3 ∨ t = 47 := by simpa using Array.mem_of_getElem? ht
  rcases h with rfl | rfl | rfl
  · exact (show Tryd.prog.wantsStandIn 3 = false by kernel_rfl)
  · exact (show Tryd.prog.wantsStandIn 3 = false by kernel_rfl)
  · exact (show Tryd.prog.wantsStandIn 47 = false by kernel_rfl)
end Go.Proofs.YtgohploghbimlaaDoor.epochConfirms
namespace Go.Proofs.YtgohploghbimlaaDoor
/-- THE CARD -/
theorem epochConfirms_card : Rows.EpochConfirmsCardSaid :=
  Claim7.holds_tied_plain_at .later [] _ _ _ _ epochConfirms.said (fun _ h => by cases h) (by kernel_rfl) (fun _ h => by cases h) epochConfirms_row_tie rfl ⟨rfl, rfl⟩ (by kernel_rfl) rfl epochConfirms.plain (by kernel_rfl)
end Go.Proofs.YtgohploghbimlaaDoor
