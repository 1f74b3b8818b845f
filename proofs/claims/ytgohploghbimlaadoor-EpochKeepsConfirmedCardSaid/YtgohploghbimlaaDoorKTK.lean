/- Walk: the law of answers to letters. -/
import Derived.Test.YtgohploghbimlaaDoorKTG
import Derived.Test.YtgohploghbimlaaDoorKLQ
set_option linter.unusedVariables false
set_option linter.unusedSimpArgs false
set_option linter.unusedSectionVars false
namespace Go.Proofs.YtgohploghbimlaaDoor
open Go.RowKit
set_option maxHeartbeats 1000000
set_option maxRecDepth 4000

theorem kept_grow (w : World) (k : Nat) (os : Array Obj) : Kept NoM w (Go.Sort.grow (w.drewN k) os) :=
  ⟨rfl, rfl, rfl, by simp [Go.Sort.grow], fun i hi _ => by simp only [Go.Sort.grow]; exact Array.getElem?_append_left hi⟩
/-- powers of ten stand in block 0 -/
def PowTab (w : World) : Prop := 0 < w.heap.size ∧ Lib.TabIs Tryd.prog w "internal/strconv.uint64pow10" .u64 Lib.pow10Tab
theorem gPow0 : Tryd.prog.globalNamed "internal/strconv.uint64pow10" = some 0 := by kernel_rfl
theorem PowTab.kept {W W' : World} (h : PowTab W) (k : Kept NoM W W') : PowTab W' := by
  refine ⟨Nat.lt_of_lt_of_le h.1 k.size, ?_⟩
  have hk := k.block 0 h.1 (fun x => x)
  have h := h.2
  unfold Lib.TabIs World.var? at *
  rw [gPow0] at *
  simp only [Option.bind_eq_bind, Option.bind_some] at *
  rw [hk]; exact h
theorem itoa_ok {w0 : World} (ht : PowTab w0) (b : Int) (h0 : -9223372036854775808 ≤ b) (h1 : b ≤ 9223372036854775807) (W1 : World) (k : Kept NoM w0 W1) :
    Calls Tryd.prog 16 #[.int .i64 b] W1 fun e w' => e = .returned (.string (itoaF b)) ∧ Kept NoM W1 w' :=
  (Go.Proofs.Tryd.strconv_Itoa b h0 h1 W1 (ht.kept k).2).mono (by rintro e w' ⟨rfl, q, os, rfl⟩; exact ⟨rfl, kept_grow _ _ _⟩)

/-- the cells of a slice of events that came in -/
def AtEvs (w : World) (a : Option Addr) (xs : List (Int × Int × Int)) : Prop := ∀ i x, xs[i]? = some x → ∃ b off, a = some ⟨b, off, none⟩ ∧
  w.cell? ⟨b, off + i * 3, none⟩ = some (.int .i64 x.1) ∧ w.cell? ⟨b, off + i * 3 + 1, none⟩ = some (.int .i64 x.2.1) ∧ w.cell? ⟨b, off + i * 3 + 2, none⟩ = some (.int .i64 x.2.2) ∧ -9223372036854775808 ≤ x.2.2 ∧ x.2.2 ≤ 9223372036854775807
theorem WOk.news {n : Nat} (h : n ≤ 7) : WOk n ⟨newsF n n, []⟩ := by
  refine ⟨⟨newsF_len n n, ?_, by simp⟩, by simp⟩
  intro k r hk
  simp only [newsF, List.getElem?_map, Option.map_eq_some_iff] at hk
  obtain ⟨i, hi, rfl⟩ := hk
  obtain ⟨h1, h2⟩ := List.getElem?_eq_some_iff.1 hi
  simp only [List.length_range] at h1
  simp only [List.getElem_range] at h2
  subst h2
  exact ⟨Valid.newF (by omega) (by omega) (by omega), rfl, rfl⟩
end Go.Proofs.YtgohploghbimlaaDoor
