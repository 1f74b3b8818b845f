/- More general words. No program. -/
import Derived.Test.YtjcmnobfdidnkaaKOwn
set_option linter.unusedVariables false
set_option linter.unusedSimpArgs false
set_option linter.unusedSectionVars false
namespace Go.Proofs.Ytjcmnobfdidnkaa
open Go.RowKit
@[go_sem] theorem setCell_drewN (w : World) (n : Nat) (a : Addr) (v : Value) : (w.drewN n).setCell a v = (w.setCell a v).drewN n := rfl
@[go_sem] theorem alloc_drewN (w : World) (n : Nat) (o : Obj) : (w.drewN n).alloc o = (w.alloc o).drewN n := rfl
@[go_sem] theorem putB_drewN (w : World) (n b : Nat) (c : Array Value) (e : TypeId) : putB (w.drewN n) b c e = (putB w b c e).drewN n := rfl

/-- make([]T, n) at one-cell elements, as a fact for the walk -/
theorem make_fact {P : Program} {t e : TypeId} {bytes : Nat} (T : SlTy P t e 1 bytes) (z : Value) (hz : (P.info? e).map (·.zero) = some (some z)) (hz1 : z.cells = #[z]) (n : Nat) (hn : n ≤ 1000000) (hb : bytes ≤ 1000) (wx : World) :
    (Instr.makeSlice t (.int .i64 n) (.int .i64 n)).run P wx = .ok (.slice (some ⟨wx.heap.size, 0, none⟩) n n) (wx.alloc (.cells (List.replicate n z).toArray e)) := by
  obtain ⟨i, z', t1, t2, t3, t4, t5, t6, t7⟩ := T
  rw [t2] at hz
  simp only [Option.map_some, Option.some.injEq] at hz
  rw [t3] at hz
  cases hz
  have hb' : (i.bytes : Int) * (n : Int) ≤ 281474976710656 := by
    rw [← Int.natCast_mul]
    have := Nat.mul_le_mul hb hn
    rw [t5]
    omega
  have hr := run_make (P := P) wx t e i z t1 t2 t3 .i64 .i64 n n (by omega) (Int.le_refl _) hb' (by omega)
  rw [hr]
  have hc : madeCells z.cells (n * i.size) = (List.replicate n z).toArray := by
    rw [t4, Nat.mul_one, hz1]
    apply Array.toList_inj.1
    rw [toList_madeCells_one]
  simp only [Int.toNat_natCast, hc]
/-- a block of numbers, written out, read as a slice -/
theorem own_list {α : Type} {w : World} {g : Nat} {e : TypeId} {f : α → Value} {E : List Value → α → Prop} (hE : ∀ x, E [f x] x) {xs : List α} (h : w.heap[g]? = some (.cells (xs.map f).toArray e (0, 0))) (hm : xs.length ≤ maxLen) :
    OwnS w (some g) e 1 E (.slice (some ⟨g, 0, none⟩) xs.length xs.length) xs := by
  refine ⟨rfl, xs.map (fun x => [f x]), ⟨?_, .inr ⟨g, xs.length, _, rfl, Nat.zero_le _, h, Nat.le_refl _, hm, by simp, ?_⟩⟩, by simp, fun i c x hc hx => ?_⟩
  · rw [flatten_length (sz := 1) (by simp)]; simp
  · have : (xs.map (fun x => [f x])).flatten = xs.map f := by
      clear h hm; induction xs with
      | nil => rfl
      | cons x xs ih => simp [ih]
    rw [this]; simp only [Nat.mul_one]; rw [List.take_of_length_le (by simp)]
  · rw [List.getElem?_map, hx] at hc
    simp only [Option.map_some, Option.some.injEq] at hc
    subst hc
    exact ⟨rfl, hE x⟩
theorem rd_list {α : Type} {w : World} {M : Nat → Prop} {g : Nat} {e : TypeId} {f : α → Value} {E : List Value → α → Prop} {xs : List α} (hE : ∀ x, E [f x] x) (h : w.heap[g]? = some (.cells (xs.map f).toArray e (0, 0))) (n : Nat) (hl : xs.length = n) (hm : n ≤ maxLen) (hM : ¬ M g) :
    RdS w M 1 E (.slice (some ⟨g, 0, none⟩) n n) xs := by
  subst hl
  exact (own_list hE h hm).rd (fun g' hg => by cases hg; exact hM)
theorem set_list {α : Type} (f : α → Value) (xs : List α) (i : Nat) (x : α) : ((xs.map f).toArray).setIfInBounds i (f x) = ((xs.set i x).map f).toArray := by
  simp [List.map_set]
end Go.Proofs.Ytjcmnobfdidnkaa
