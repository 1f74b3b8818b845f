/- Walks: Pending of the program's disk. -/
import Derived.Test.YtjcmnobfdidnkaaKA7
set_option linter.unusedVariables false
set_option linter.unusedSimpArgs false
set_option linter.unusedSectionVars false
namespace Go.Proofs.Ytjcmnobfdidnkaa
open Go.RowKit
set_option maxHeartbeats 4000000
set_option maxRecDepth 4000
variable {D G B : Nat} {d : Dk}
/-- what has been collected while some pages are still to come -/
structure Coll (d : Dk) (left : Nat → Bool) (acc : List Nat) : Prop where
  nodup : acc.Nodup
  mem : ∀ i, i < d.n → (i ∈ acc ↔ (d.pn i).isSome = true ∧ left i = false)
  lt : ∀ i ∈ acc, i < d.n
theorem Coll.start {left : Nat → Bool} (h : ∀ i, i < d.n → left i = (d.pn i).isSome) : Coll d left [] :=
  ⟨List.nodup_nil, fun i hi => ⟨fun h => (by simp at h), fun ⟨h1, h2⟩ => by rw [h i hi, h1] at h2; cases h2⟩, fun i hi => by simp at hi⟩
theorem Coll.step {left : Nat → Bool} {acc : List Nat} (h : Coll d left acc) {i : Nat} {p : Pg} (hi : i < d.n) (hp : d.pn i = some p) (hl : left i = true) : Coll d (fun j => left j && !(j == i)) (acc ++ [i]) := by
  have hni : i ∉ acc := fun hm => by have := ((h.mem i hi).1 hm).2; rw [hl] at this; cases this
  refine ⟨?_, fun j hj => ?_, fun j hj => ?_⟩
  · rw [List.nodup_append]
    exact ⟨h.nodup, by simp, fun a ha b hb => by simp at hb; subst hb; intro e; subst e; exact hni ha⟩
  · rw [List.mem_append, h.mem j hj, List.mem_singleton]
    by_cases hji : j = i
    · subst hji; simp [hp]
    · simp [hji]
  · rw [List.mem_append, List.mem_singleton] at hj
    rcases hj with hj | rfl
    · exact h.lt j hj
    · exact hi
theorem Coll.len {left : Nat → Bool} {acc : List Nat} (h : Coll d left acc) : acc.length ≤ d.n := nodup_le h.nodup h.lt
theorem Coll.done {left : Nat → Bool} {acc : List Nat} (h : Coll d left acc) (hl : ∀ i, left i = false) : ∀ i, i ∈ acc ↔ i < d.n ∧ (d.pn i).isSome = true := fun i =>
  ⟨fun hm => ⟨h.lt i hm, ((h.mem i (h.lt i hm)).1 hm).1⟩, fun ⟨h1, h2⟩ => (h.mem i h1).2 ⟨h2, hl i⟩⟩
theorem sort_okm (O : Option Nat) (a : Option Addr) (cap m : Nat) (xs : List Int) (hm : xs.length = m) (w : World) (h : OwnS w O 3 1 EInt (.slice a m cap) xs) (hn : m ≤ 1000000) :
    Calls Try.prog 64 #[.slice a m cap] w fun e w' => e = .returned (.tuple #[]) ∧ OwnS w' O 3 1 EInt (.slice a m cap) (sortF xs) ∧ Kept (fun k => some k = O) w w' := by
  subst hm; exact sort_ok O a cap xs w h hn
theorem pending_ok (w : World) (h : PD w D G B d) : Calls Try.prog 46 #[.pointer (some ⟨D, 0, none⟩)] w fun e w' => ∃ a cap O, e = .returned (.slice a d.pending.length cap) ∧ OwnS w' O 3 1 EInt (.slice a d.pending.length cap) (d.pending.map fun i : Nat => (i : Int)) ∧ NewO w none O ∧ Kept NoM w w' := by
  have hn := h.n_hi
  have HM := Lib.hid h.pmap
  obtain ⟨cap, _, c1, _, _⟩ := h.cells
  have hBz := h.lt.2.2
  clear h
  go_enter Try.func46, Try.ntmps46
  go_wp2_with (at_range; refine wpList_range_P rfl _ 73 rfl Try.underlying3 Try.underlying73 rfl HM.out ?_; intro w0 left0 cnt0 hr0 hl0 k0 hs0)
  have HR0 := Lib.hid hr0
  have HL0 := Lib.hid hl0
  have HK0 := Lib.hid k0
  have HS0 := Lib.hid hs0
  clear hr0 hl0 k0 hs0
  go_frame
  go_loopw [3] (fun l wr => ∃ (acc : List Nat) (left : Nat → Bool) (cnt m : Nat), acc.length = m ∧ PRange Try.prog 3 wr B w.heap.size d.n d.pn left cnt ∧ Coll d left acc ∧ ∃ a cap O, l = .slice a m cap ∧ OwnS wr O 3 1 EInt (.slice a m cap) (acc.map fun i : Nat => (i : Int)) ∧ (∀ g, O = some g → w.heap.size < g) ∧ Kept NoM w wr) (fun _ wr => wr.rangeLeft B w.heap.size)
  case atStart => exact ⟨[], left0, cnt0, 0, rfl, HR0.out, Coll.start HL0.out, none, 0, none, rfl, OwnS.nil _ _ _ _, (fun g hg => by cases hg), HK0.out⟩
  case round =>
    obtain ⟨acc, left, cnt, m, hm, hR, hC, a, capl, O, rfl, own, hO, hK⟩ := hrel
    have HRR := Lib.hid hR
    have HC := Lib.hid hC
    have HMM := Lib.hid hm
    have HO := Lib.hid hO
    have HKK := Lib.hid hK
    have OWN := Lib.hid own
    have hmn : m ≤ d.n := by rw [← hm]; exact hC.len
    clear hR hC hm hO own
    go_wp2_with (at_next; refine wpList_next_P rfl _ rfl Try.underlying3 rfl HRR.out ?_ ?_)
    · intro hl
      have hl2 := HC.out.done hl
      have hso := sorted_pending HC.out.nodup hl2
      have HSO := Lib.hid hso
      have hm6 : m ≤ 1000000 := by omega
      clear hl hl2 hso
      go_wp2_with (go_at_call 64; refine (sort_okm O a capl m (acc.map fun i : Nat => (i : Int)) (by rw [List.length_map]; exact HMM.out) _ OWN.out hm6).mono ?_; rintro e w2 ⟨rfl, own2, k2⟩)
      have e : m = d.pending.length := by
        have := congrArg List.length HSO.out
        rw [sortF_len, List.length_map, List.length_map, HMM.out] at this
        exact this
      rw [HSO.out] at own2
      have hKf : Kept NoM w w2 := HKK.out.trans' k2 (fun i hi hh => by have := HO.out i hh.symm; omega)
      have hNO : NewO w none O := by
        cases O with
        | none => exact .inl rfl
        | some g => exact .inr ⟨g, rfl, by have := HO.out g rfl; omega⟩
      have OWN2 := Lib.hid own2
      clear own2 k2
      go_wp2_with fail
      go_ret
      subst e
      exact ⟨_, _, O, rfl, OWN2.out, hNO, hKf⟩
    · intro i p w1 cnt1 hi hp hpl hli hr1 hlt k1 hz1 hen
      have HC1 := Lib.hid (HC.out.step hi hp hli)
      have HR1 := Lib.hid hr1
      have hOr : ∀ g, O = some g → ¬ g = w.heap.size := fun g hg e => by have := HO.out g hg; omega
      have K1 : Kept NoM w w1 := HKK.out.trans' k1 (fun i hi hh => by omega)
      have own1 := OWN.out.kept k1 hOr (fun _ _ x => x)
      have hoo : ∀ o1, OwnS (w1.alloc o1) O 3 1 EInt (.slice a m capl) (acc.map fun i : Nat => (i : Int)) := fun o1 => own1.kept ((Kept.refl NoM w1).alloc o1) (fun _ _ h => h) (fun _ _ h => h)
      have hrd : RdS (w1.alloc (.cells #[.int .i64 i] 3 (0, 0))) NoM 1 EInt (.slice (some ⟨w1.heap.size, 0, none⟩) 1 1) [(i : Int)] := rd_one (x := (i : Int)) (blk_new _ _) (fun h => h) rfl rfl
      have hls : (acc.map fun i : Nat => (i : Int)).length = m := by rw [List.length_map]; exact HMM.out
      have HLS := Lib.hid hls
      have hb1 : m + 1 ≤ maxLen := by unfold maxLen; omega
      have hb2 : (m + 1) * 8 ≤ 140737488355328 := by omega
      have hz := K1.size
      have hr1lt := hr1.lt
      have hcl := hlt
      have HK1 := Lib.hid K1
      have HLT := Lib.hid hcl
      clear hp hli hr1 hlt k1 own1 hls hcl K1 hpl hz1
      go_wp2_with (at_builtin; go_loud (refine wpList_append_S (M := NoM) rfl (.tmp 14) (.tmp 16) 60 rfl 8 tyInts _ rfl (hoo _) _ rfl hrd eInt_one m 1 HLS.out rfl hb1 hb2 ?_; intro a1 cap1 w2 O1 own2 k2 n2))
      have hO1 : ∀ g, O1 = some g → w.heap.size < g := fun g hg => by
        rcases n2 with rfl | ⟨g', rfl, h2⟩
        · exact HO.out g hg
        · cases hg; simp at h2; omega
      have k2' : Kept (fun k => some k = O) w1 w2 := (((Kept.refl _ w1).alloc _).trans k2)
      have KN : Kept NoM w w2 := HK1.out.trans' k2' (fun i hi hh => by have := HO.out i hh.symm; omega)
      have hR2 := HR1.out.kept k2' (fun hh => by have := HO.out B hh.symm; omega) (fun hh => by have := HO.out w.heap.size hh.symm; omega)
      have HR2 := Lib.hid hR2
      clear hR2 k2 k2'
      go_roundw
      case rel => exact ⟨acc ++ [i], _, cnt1, m + 1, by rw [List.length_append, HMM.out]; rfl, HR2.out, HC1.out, a1, cap1, O1, rfl, by rw [List.map_append]; exact own2, hO1, KN⟩
      case measure => rw [HR2.out.left_eq, HRR.out.left_eq]; exact HLT.out
end Go.Proofs.Ytjcmnobfdidnkaa
