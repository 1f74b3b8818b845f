/- Texts that belong together: V14, W41. -/
import Derived.Test.YtghgegghlefclaaKV3
import Derived.Test.YtghgegghlefclaaKVL
import Derived.Test.YtghgegghlefclaaKW39
import Derived.Test.YtghgegghlefclaaKW33
import Derived.Test.YtghgegghlefclaaKW37
import Derived.Test.YtghgegghlefclaaKW36
import Derived.Test.YtghgegghlefclaaKW40
import Derived.Test.YtghgegghlefclaaKW22
set_option linter.unusedVariables false
set_option linter.unusedSimpArgs false
set_option linter.unusedSectionVars false
/- The example of the documentation, in plain words; lists laid down at once. -/
namespace Go.Proofs.Ytghgegghlefclaa
open Go.RowKit
set_option maxRecDepth 8000
theorem rd_flat {α : Type} {w : World} {M : Nat → Prop} {b n sz : Nat} {e : TypeId} {f : α → List Value} {E : List Value → α → Prop} {xs : List α} (hE : ∀ x, E (f x) x) (hf : ∀ x, (f x).length = sz) (h : w.heap[b]? = some (.cells (flat f xs).toArray e (0, 0))) (hM : ¬ M b) (hn : xs.length = n) (hm : n ≤ maxLen) :
    RdS w M sz E (.slice (some ⟨b, 0, none⟩) n n) xs := by
  subst hn
  refine ⟨_, _, rfl, Nat.le_refl _, hm, .inr ⟨b, 0, rfl, fun i x hx => ⟨hM, f x, hE x, hf x, fun j u hj => ?_⟩⟩⟩
  rw [Nat.zero_add]
  exact cell_blk h _ _ (by simpa using flat_at hf hx hj)
theorem wrs_putZ {w : World} {M : Nat → Prop} {v : Value} {l : List Wr} {b : Nat} (h : RdS w M 26 EWr v l) (hb : w.heap[b]? = some (.cells devZC 27 (0, 0))) (cs : Array Value) : RdS (putB w b cs 27) M 26 EWr v l :=
  h.step0 hb (fun i x c off hx hE _ => by
    have hl : c.length = 26 := by rw [hE]; rfl
    exact ⟨25, c[25], by simp, fun e => by have := (devZC_at _ _ e).1; omega⟩)
def exD : Dev := ⟨2, 0, [], [], [], [], false⟩
def exBar : Wr := ⟨3, 3, 3, ruZ0⟩
def exDrop : Wr := ⟨3, 4, 2, { ruZ0 with pri := 5 }⟩
def exOld : Wr := ⟨2, 9, 3, ruZ0⟩
def exL1 : List Wr := [putW 1 5, putW 2 7, exBar, exDrop]
def exL2 : List Wr := [exOld, putW 2 7, putW 5 1, putW 6 2]
def exA : Dev := ⟨2, 3, [], exL1, [], [], false⟩
def exB : Dev := ⟨2, 3, [(putW 2 7).rule, (putW 1 5).rule], [exBar, exDrop], [1, 2], [], false⟩
def exC : Dev := ⟨2, 3, [(putW 2 7).rule], [], [1, 2, 3, 4], [], false⟩
def exF : Dev := ⟨2, 3, [(putW 2 7).rule], [putW 5 1, putW 6 2], [1, 2, 3, 4], [], false⟩
def exG : Dev := ⟨2, 3, [(putW 2 7).rule, (putW 5 1).rule], [], [1, 2, 3, 4, 5], [], false⟩
theorem ex1 : stR exD exL1 4 = (exA, []) := by rfl
theorem ex2 : stD exA [1, 0] 2 = (exB, [⟨3, 2, 0⟩, ⟨3, 1, 0⟩]) := by rfl
theorem ex3 : stD exB [0, 0] 2 = (exC, [⟨3, 3, 0⟩, ⟨3, 4, 0⟩]) := by rfl
theorem ex4 : stR exC exL2 4 = (exF, [⟨2, 9, 22⟩, ⟨3, 2, 0⟩]) := by rfl
theorem ex5 : stD exF [0, 0] 2 = (exG, [⟨3, 5, 0⟩, ⟨3, 6, 12⟩]) := by rfl
theorem exR1 : rdyTo exA.queue exA.queue.length = [0, 1] := by rfl
theorem exR2 : rdyTo exB.queue exB.queue.length = [0] := by rfl
theorem ten0 {p : Nat → Bool} (h : ∀ i, p i = true) : ten p = true := ten_iff.2 (fun i _ => h i)
theorem right0 (r : Ru) (h1 : r.msk = fun _ => 0) (h2 : r.bts = fun _ => 0) : rightB r = true := by
  unfold rightB
  rw [h1, h2]
  rfl
theorem putW_formed {s p : Int} (hs : okN s = true) (hp : okP p = true) : formedB (putW s p) = true := by
  have h1 := right0 (putW s p).rule rfl rfl
  unfold formedB
  rw [if_pos (show (putW s p).kind = 1 from rfl), h1, show okN (putW s p).ep = true from rfl, show okN (putW s p).seq = true from hs, show okP (putW s p).rule.pri = true from hp]; rfl
theorem bareZ0 (p : Int) : bareB { ruZ0 with pri := p } = true := rfl
theorem exBar_formed : formedB exBar = true := by rfl
theorem exDrop_formed : formedB exDrop = true := by rfl
theorem exOld_formed : formedB exOld = true := by rfl
theorem exL1_formed : ∀ x ∈ exL1, formedB x = true := by
  intro x hx
  simp only [exL1, List.mem_cons, List.not_mem_nil, or_false] at hx
  rcases hx with rfl | rfl | rfl | rfl
  · exact putW_formed rfl rfl
  · exact putW_formed rfl rfl
  · exact exBar_formed
  · exact exDrop_formed
theorem exL2_formed : ∀ x ∈ exL2, formedB x = true := by
  intro x hx
  simp only [exL2, List.mem_cons, List.not_mem_nil, or_false] at hx
  rcases hx with rfl | rfl | rfl | rfl
  · exact exOld_formed
  · exact putW_formed rfl rfl
  · exact putW_formed rfl rfl
  · exact putW_formed rfl rfl
theorem exD_right : RD exD := by
  refine ⟨by decide, by decide, ⟨trivial, fun r hr => by simp [exD] at hr, by decide⟩, by decide, ⟨trivial, fun n hn => by simp [exD] at hn⟩, ⟨trivial, fun n hn => by simp [exD] at hn⟩, fun x hx => by simp [exD] at hx, List.Pairwise.nil⟩
theorem exA_right : RD exA := by
  have := (stR_ok exD_right ⟨by decide, by decide, by decide⟩ exL1_formed 4 (by decide)).1
  rwa [ex1] at this
theorem few_of {d : Dev} (h1 : d.table.length ≤ 1000) (h2 : d.done.length ≤ 1000) (h3 : d.lost.length ≤ 1000) : Few d := ⟨h1, h2, h3⟩
theorem exB_right : RD exB := by
  have h1 := exA_right.doW (k := 1) (w := putW 2 7) rfl
  have h2 := h1.doW (k := 0) (w := putW 1 5) rfl
  exact h2
theorem exC_right : RD exC := by
  have h1 := exB_right.doW (k := 0) (w := exBar) rfl
  have h2 := h1.doW (k := 0) (w := exDrop) rfl
  exact h2
theorem exF_right : RD exF := by
  have := (stR_ok exC_right ⟨by decide, by decide, by decide⟩ exL2_formed 4 (by decide)).1
  rwa [ex4] at this
theorem exG_right : RD exG := by
  have h1 := exF_right.doW (k := 0) (w := putW 5 1) rfl
  have h2 := h1.doW (k := 0) (w := putW 6 2) rfl
  exact h2
theorem exA_do : ∀ (k n : Nat), [1, 0][k]? = some n → RD (stD exA [1, 0] k).1 ∧ Few (stD exA [1, 0] k).1 ∧ ∃ x, (stD exA [1, 0] k).1.queue[n]? = some x ∧ rdyB (stD exA [1, 0] k).1.queue n = true := by
  intro k n h
  have hk : k = 0 ∨ k = 1 := by have := (List.getElem?_eq_some_iff.1 h).1; simp at this; omega
  rcases hk with rfl | rfl
  · obtain rfl : 1 = n := by simpa using h
    exact ⟨exA_right, ⟨by decide, by decide, by decide⟩, putW 2 7, rfl, rfl⟩
  · obtain rfl : 0 = n := by simpa using h
    exact ⟨exA_right.doW (k := 1) (w := putW 2 7) rfl, ⟨by decide, by decide, by decide⟩, putW 1 5, rfl, rfl⟩
theorem exB_do : ∀ (k n : Nat), [0, 0][k]? = some n → RD (stD exB [0, 0] k).1 ∧ Few (stD exB [0, 0] k).1 ∧ ∃ x, (stD exB [0, 0] k).1.queue[n]? = some x ∧ rdyB (stD exB [0, 0] k).1.queue n = true := by
  intro k n h
  have hk : k = 0 ∨ k = 1 := by have := (List.getElem?_eq_some_iff.1 h).1; simp at this; omega
  rcases hk with rfl | rfl
  · obtain rfl : 0 = n := by simpa using h
    exact ⟨exB_right, ⟨by decide, by decide, by decide⟩, exBar, rfl, rfl⟩
  · obtain rfl : 0 = n := by simpa using h
    exact ⟨exB_right.doW (k := 0) (w := exBar) rfl, ⟨by decide, by decide, by decide⟩, exDrop, rfl, rfl⟩
theorem exF_do : ∀ (k n : Nat), [0, 0][k]? = some n → RD (stD exF [0, 0] k).1 ∧ Few (stD exF [0, 0] k).1 ∧ ∃ x, (stD exF [0, 0] k).1.queue[n]? = some x ∧ rdyB (stD exF [0, 0] k).1.queue n = true := by
  intro k n h
  have hk : k = 0 ∨ k = 1 := by have := (List.getElem?_eq_some_iff.1 h).1; simp at this; omega
  rcases hk with rfl | rfl
  · obtain rfl : 0 = n := by simpa using h
    exact ⟨exF_right, ⟨by decide, by decide, by decide⟩, putW 5 1, rfl, rfl⟩
  · obtain rfl : 0 = n := by simpa using h
    exact ⟨exF_right.doW (k := 0) (w := putW 5 1) rfl, ⟨by decide, by decide, by decide⟩, putW 6 2, rfl, rfl⟩
end Go.Proofs.Ytghgegghlefclaa

/- The calls of the documentation's example. -/
namespace Go.Proofs.Ytghgegghlefclaa
open Go.RowKit
set_option maxRecDepth 8000
def LPost (D : Dev) (A : List Ak) (w : World) (e : Ending) (w' : World) : Prop := ∃ v' av, e = .returned (.tuple #[v', av]) ∧ DevV w' NoM v' D ∧ RdS w' NoM 3 EAk av A ∧ Kept NoM w w'
theorem noM_lt {w : World} : ∀ i, NoM i → i < w.heap.size := fun _ h => h.elim
theorem exrec1 (v lv : Value) (w : World) (h : DevV w NoM v exD) (hl : RdS w NoM 26 EWr lv exL1) : Calls Try.prog 36 #[v, lv] w (LPost exA [] w) := by
  have := lrecv_ok v lv exD exL1 NoM NoM w h noM_lt hl (by decide) exD_right ⟨by decide, by decide, by decide⟩ exL1_formed
  rw [show exL1.length = 4 from rfl, ex1] at this
  exact this
theorem exdo1 (v lv : Value) (w : World) (h : DevV w NoM v exA) (hl : RdS w NoM 1 ENat lv [1, 0]) : Calls Try.prog 38 #[v, lv] w (LPost exB [⟨3, 2, 0⟩, ⟨3, 1, 0⟩] w) := by
  have := ldo_ok v lv exA [1, 0] NoM NoM w h noM_lt hl (by decide) exA_do
  rw [show ([1, 0] : List Nat).length = 2 from rfl, ex2] at this
  exact this
theorem exdo2 (v lv : Value) (w : World) (h : DevV w NoM v exB) (hl : RdS w NoM 1 ENat lv [0, 0]) : Calls Try.prog 38 #[v, lv] w (LPost exC [⟨3, 3, 0⟩, ⟨3, 4, 0⟩] w) := by
  have := ldo_ok v lv exB [0, 0] NoM NoM w h noM_lt hl (by decide) exB_do
  rw [show ([0, 0] : List Nat).length = 2 from rfl, ex3] at this
  exact this
theorem exrec2 (v lv : Value) (w : World) (h : DevV w NoM v exC) (hl : RdS w NoM 26 EWr lv exL2) : Calls Try.prog 36 #[v, lv] w (LPost exF [⟨2, 9, 22⟩, ⟨3, 2, 0⟩] w) := by
  have := lrecv_ok v lv exC exL2 NoM NoM w h noM_lt hl (by decide) exC_right ⟨by decide, by decide, by decide⟩ exL2_formed
  rw [show exL2.length = 4 from rfl, ex4] at this
  exact this
theorem exdo3 (v lv : Value) (w : World) (h : DevV w NoM v exF) (hl : RdS w NoM 1 ENat lv [0, 0]) : Calls Try.prog 38 #[v, lv] w (LPost exG [⟨3, 5, 0⟩, ⟨3, 6, 12⟩] w) := by
  have := ldo_ok v lv exF [0, 0] NoM NoM w h noM_lt hl (by decide) exF_do
  rw [show ([0, 0] : List Nat).length = 2 from rfl, ex5] at this
  exact this
theorem exnew (w : World) : Calls Try.prog 35 #[.int .i64 2] w fun e w' => e = .returned (.tuple #[.agg (devC exD none 0 none 0 none 0 none 0), .int .i64 0]) ∧ Kept NoM w w' := new_ok w
theorem natRd {w : World} {b n : Nat} {l : List Nat} (h : w.heap[b]? = some (.cells (l.map fun k : Nat => Value.int .i64 (k : Int)).toArray 3 (0, 0))) (hn : l.length = n) (hm : l.length ≤ 100) : RdS w NoM 1 ENat (.slice (some ⟨b, 0, none⟩) n n) l :=
  rd_list (f := fun k : Nat => Value.int .i64 (k : Int)) (fun _ => rfl) h n hn (by unfold maxLen; omega) (fun x => x)
theorem intRd {w : World} {b n : Nat} {l : List Int} (h : w.heap[b]? = some (.cells (l.map fun k => Value.int .i64 k).toArray 3 (0, 0))) (hn : l.length = n) (hm : l.length ≤ 100) : RdS w NoM 1 EInt (.slice (some ⟨b, 0, none⟩) n n) l :=
  rd_list (f := fun k => Value.int .i64 k) (fun _ => rfl) h n hn (by unfold maxLen; omega) (fun x => x)
theorem exreadyA (ta qa da la : Option Addr) (tc qc dc lc : Nat) (w : World) (h : DevR w NoM exA ta tc qa qc da dc la lc) : Calls Try.prog 13 #[.agg (devC exA ta tc qa qc da dc la lc)] w fun e w' => ∃ a cap, e = .returned (.slice a 2 cap) ∧ RdS w' NoM 1 EInt (.slice a 2 cap) [0, 1] ∧ Kept NoM w w' := by
  refine (ready_ok exA ta qa da la tc qc dc lc NoM w h.rq (by decide) (fun x hx => by have := formed_pri (exL1_formed x hx); omega)).mono ?_
  rintro e w' ⟨a, n, cap, O, rfl, ho, _, k⟩
  rw [exR1] at ho
  obtain ⟨a', cap', e1, _, _, _, _⟩ := ho.shape
  simp only [Value.slice.injEq] at e1
  obtain ⟨rfl, rfl, rfl⟩ := e1
  exact ⟨_, _, rfl, ho.rd (fun _ _ x => x), k⟩
theorem exreadyB (ta qa da la : Option Addr) (tc qc dc lc : Nat) (w : World) (h : DevR w NoM exB ta tc qa qc da dc la lc) : Calls Try.prog 13 #[.agg (devC exB ta tc qa qc da dc la lc)] w fun e w' => ∃ a cap, e = .returned (.slice a 1 cap) ∧ RdS w' NoM 1 EInt (.slice a 1 cap) [0] ∧ Kept NoM w w' := by
  refine (ready_ok exB ta qa da la tc qc dc lc NoM w h.rq (by decide) (fun x hx => by have := formed_pri (exB_right.q x hx).1; omega)).mono ?_
  rintro e w' ⟨a, n, cap, O, rfl, ho, _, k⟩
  rw [exR2] at ho
  obtain ⟨a', cap', e1, _, _, _, _⟩ := ho.shape
  simp only [Value.slice.injEq] at e1
  obtain ⟨rfl, rfl, rfl⟩ := e1
  exact ⟨_, _, rfl, ho.rd (fun _ _ x => x), k⟩
theorem exformed (w : World) : Calls Try.prog 41 #[.agg (wrC exDrop)] w fun e w' => e = .returned (.bool true) ∧ Kept NoM w w' := by
  have := formed_ok exDrop w (by decide) (by decide)
  rwa [exDrop_formed] at this
end Go.Proofs.Ytghgegghlefclaa
