/- General words for walks: what a call keeps ('Kept'), slices that read as lists ('RdS'), slices that the call owns ('OwnS'). No program. -/
import Derived.WalkKit
import Derived.KernelRfl
import Derived.Deep.QuietTactic
import Derived.Lib.Hide
set_option linter.unusedVariables false
set_option linter.unusedSimpArgs false
set_option linter.unusedSectionVars false
namespace Go.Proofs.Ytghgegghlefclaa
open Go.RowKit

/-- Every block that was there, but for those of M, is as it was. -/
structure Kept (M : Nat → Prop) (w w' : World) : Prop where
  os : w'.os = w.os
  tape : w'.tape = w.tape
  output : w'.output = w.output
  size : w.heap.size ≤ w'.heap.size
  block : ∀ k, k < w.heap.size → ¬ M k → w'.heap[k]? = w.heap[k]?

def NoM : Nat → Prop := fun _ => False

section
variable {M M' : Nat → Prop} {a b c w w' w'' : World}
theorem Kept.refl (M : Nat → Prop) (w : World) : Kept M w w := ⟨rfl, rfl, rfl, Nat.le_refl _, fun _ _ _ => rfl⟩
theorem Kept.trans' (h : Kept M a b) (k : Kept M' b c) (hm : ∀ i, i < a.heap.size → M' i → M i) : Kept M a c :=
  ⟨k.os.trans h.os, k.tape.trans h.tape, k.output.trans h.output, Nat.le_trans h.size k.size,
    fun i hi hn => (k.block i (Nat.lt_of_lt_of_le hi h.size) (fun x => hn (hm i hi x))).trans (h.block i hi hn)⟩
theorem Kept.trans (h : Kept M a b) (k : Kept M b c) : Kept M a c := h.trans' k (fun _ _ x => x)
theorem Kept.mono (h : Kept M a b) (hm : ∀ i, i < a.heap.size → M i → M' i) : Kept M' a b :=
  ⟨h.os, h.tape, h.output, h.size, fun i hi hn => h.block i hi (fun x => hn (hm i hi x))⟩
theorem Kept.of_no (h : Kept NoM a b) : Kept M a b := h.mono (fun _ _ x => x.elim)
theorem Kept.transN (h : Kept M a b) (k : Kept NoM b c) : Kept M a c := h.trans' k (fun _ _ x => x.elim)
theorem Kept.drew (h : Kept M a w) : Kept M a w.drew := ⟨h.os, h.tape, h.output, h.size, h.block⟩
theorem Kept.drewN (h : Kept M a w) (n : Nat) : Kept M a (w.drewN n) := ⟨h.os, h.tape, h.output, h.size, h.block⟩
theorem Kept.alloc (h : Kept M a w) (o : Obj) : Kept M a (w.alloc o) :=
  ⟨h.os, h.tape, h.output, Nat.le_trans h.size (by simp), fun k hk hn => (Below.heap_alloc w o k (Nat.lt_of_lt_of_le hk h.size)).trans (h.block k hk hn)⟩
theorem Kept.setCell (h : Kept M a w) {p : Addr} (hp : p.block < a.heap.size → M p.block) (u : Value) : Kept M a (w.setCell p u) :=
  ⟨h.os, h.tape, h.output, Nat.le_trans h.size (by simp), fun k hk hn =>
    (Below.heap_setCell w p u k (fun e => hn (by subst e; exact hp hk))).trans (h.block k hk hn)⟩
theorem Kept.grown {row : Option Nat} (h : Kept M a w) (hg : w.grownBy w' row) (hr : ∀ k, row = some k → k < a.heap.size → M k) : Kept M a w' :=
  ⟨hg.os.trans h.os, hg.tape.trans h.tape, hg.output.trans h.output, Nat.le_trans h.size hg.size,
    fun k hk hn => (hg.block k (Nat.lt_of_lt_of_le hk h.size) (fun e => hn (hr k e.symm hk))).trans (h.block k hk hn)⟩
theorem Kept.below (h : Kept NoM a b) : Below a.heap.size a b := ⟨h.os, h.tape, h.output, h.size, fun k hk => h.block k hk (fun x => x)⟩
theorem Kept.of_below (h : Below a.heap.size a b) : Kept M a b := ⟨h.os, h.tape, h.output, h.size, fun k hk _ => h.block k hk⟩
theorem Kept.blk {k : Nat} {o : Obj} (h : Kept M w w') (hb : w.heap[k]? = some o) (hm : ¬ M k) : w'.heap[k]? = some o := by
  rw [h.block k (lt_of_block hb) hm]; exact hb
theorem Kept.cell {p : Addr} {v : Value} (h : Kept M w w') (hc : w.cell? p = some v) (hm : ¬ M p.block) : w'.cell? p = some v :=
  (World.cell?_of_block (h.block p.block (World.block_lt_of_cell? w p hc) hm)).trans hc
end

/-- what the walk asks of an opaque world behind a call that keeps all: two rules. -/
theorem kcell {W w1 : World} (hb : Kept NoM W w1) : (∀ b o, b < W.heap.size → w1.cell? ⟨b, o, none⟩ = W.cell? ⟨b, o, none⟩) ∧ (∀ b o, b < W.heap.size → w1.frozen? ⟨b, o, none⟩ = W.frozen? ⟨b, o, none⟩) :=
  ⟨fun b o h => World.cell?_of_block (a := ⟨b, o, none⟩) (hb.block b h (fun x => x)), fun b o h => World.frozen?_of_block (a := ⟨b, o, none⟩) (hb.block b h (fun x => x))⟩
theorem quiet_eq {P : Program} {f : FuncId} {args : Array Value} {w : World} {n : Nat} {v : Value}
    (h : Calls P f args (w.drewN n) fun e w' => e = .returned v ∧ w.drewN n = w') : Calls P f args (w.drewN n) fun e w'' => e = .returned v ∧ ∃ m, w'' = w.drewN m :=
  h.mono fun _ _ ⟨he, hm⟩ => ⟨he, n, hm.symm⟩
theorem blk_set {w : World} {b i : Nat} {c : Array Value} {e : TypeId} {f : Nat × Nat} (h : w.heap[b]? = some (.cells c e f)) (v : Value) :
    (w.setCell ⟨b, i, none⟩ v).heap[b]? = some (.cells (c.setIfInBounds i v) e f) := by
  simp [World.setCell, Array.getElem?_modify, h]
theorem blk_set_ne {w : World} {b k i : Nat} {o : Obj} (h : w.heap[k]? = some o) (hne : k ≠ b) (v : Value) :
    (w.setCell ⟨b, i, none⟩ v).heap[k]? = some o := by
  rw [Below.heap_setCell _ _ _ _ hne]; exact h
theorem blk_new (w : World) (o : Obj) : (w.alloc o).heap[w.heap.size]? = some o := heap_alloc_new w o
theorem blk_new' (w : World) (o : Obj) (n : Nat) (h : n = w.heap.size) : (w.alloc o).heap[n]? = some o := by subst h; exact heap_alloc_new w o
theorem blk_old {w : World} {k : Nat} {x : Obj} (h : w.heap[k]? = some x) (o : Obj) : (w.alloc o).heap[k]? = some x := by
  rw [Below.heap_alloc w o k (lt_of_block h)]; exact h
theorem blk_drew {w : World} {k : Nat} {x : Obj} (h : w.heap[k]? = some x) : w.drew.heap[k]? = some x := h
theorem blk_drewN {w : World} {k : Nat} {x : Obj} (h : w.heap[k]? = some x) (n : Nat) : (w.drewN n).heap[k]? = some x := h
theorem cell_blk {w : World} {b : Nat} {c : Array Value} {e : TypeId} {f : Nat × Nat} (h : w.heap[b]? = some (.cells c e f)) (i : Nat) (v : Value) (hv : c[i]? = some v) : w.cell? ⟨b, i, none⟩ = some v := by
  simp [World.cell?, h, hv]
theorem free_blk {w : World} {b : Nat} {c : Array Value} {e : TypeId} (h : w.heap[b]? = some (.cells c e (0, 0))) (i : Nat) : w.frozen? ⟨b, i, none⟩ = false := by
  simp [World.frozen?, h]

/-! ### A world with one block written out -/
/-- w, block b being the row c. -/
def putB (w : World) (b : Nat) (c : Array Value) (e : TypeId) : World := { w with heap := w.heap.setIfInBounds b (.cells c e (0, 0)) }
section
variable (w : World) (b k i : Nat) (c : Array Value) (e : TypeId) (v : Value) (o : Obj)
theorem putB_self {w : World} {b : Nat} {c : Array Value} {e : TypeId} (h : w.heap[b]? = some (.cells c e (0, 0))) : w = putB w b c e := by
  have hlt := lt_of_block h
  have hx : w.heap.setIfInBounds b (.cells c e (0, 0)) = w.heap := by
    apply Array.ext_getElem?
    intro i
    rw [Array.getElem?_setIfInBounds]
    split
    · rename_i hi; subst hi; exact h.symm
    · rfl
  unfold putB
  rw [hx]
@[go_sem, simp] theorem putB_size : (putB w b c e).heap.size = w.heap.size := by simp [putB]
@[go_sem] theorem putB_drew : putB w.drew b c e = (putB w b c e).drew := rfl
theorem putB_blk (h : b < w.heap.size) : (putB w b c e).heap[b]? = some (.cells c e (0, 0)) := by simp [putB, h]
theorem putB_blk_ne (h : k ≠ b) : (putB w b c e).heap[k]? = w.heap[k]? := by
  simp only [putB, Array.getElem?_setIfInBounds]; rw [if_neg (Ne.symm h)]
@[go_sem] theorem putB_cell (h : b < w.heap.size) : (putB w b c e).cell? ⟨b, i, none⟩ = c[i]? := by simp [World.cell?, putB_blk _ _ _ _ h]
@[go_sem] theorem putB_cell_lt (h : k < b) : (putB w b c e).cell? ⟨k, i, none⟩ = w.cell? ⟨k, i, none⟩ := by
  simp only [World.cell?, putB_blk_ne w b k c e (by omega)]
@[go_sem] theorem putB_cell_gt (h : b < k) : (putB w b c e).cell? ⟨k, i, none⟩ = w.cell? ⟨k, i, none⟩ := by
  simp only [World.cell?, putB_blk_ne w b k c e (by omega)]
@[go_sem] theorem putB_cell_ne (h : ¬ k = b) : (putB w b c e).cell? ⟨k, i, none⟩ = w.cell? ⟨k, i, none⟩ := by
  simp only [World.cell?, putB_blk_ne w b k c e h]
@[go_sem] theorem putB_frozen (h : b < w.heap.size) : (putB w b c e).frozen? ⟨b, i, none⟩ = false := by simp [World.frozen?, putB_blk _ _ _ _ h]
@[go_sem] theorem putB_frozen_lt (h : k < b) : (putB w b c e).frozen? ⟨k, i, none⟩ = w.frozen? ⟨k, i, none⟩ := by
  simp only [World.frozen?, putB_blk_ne w b k c e (by omega)]
@[go_sem] theorem putB_frozen_gt (h : b < k) : (putB w b c e).frozen? ⟨k, i, none⟩ = w.frozen? ⟨k, i, none⟩ := by
  simp only [World.frozen?, putB_blk_ne w b k c e (by omega)]
@[go_sem] theorem putB_frozen_ne (h : ¬ k = b) : (putB w b c e).frozen? ⟨k, i, none⟩ = w.frozen? ⟨k, i, none⟩ := by
  simp only [World.frozen?, putB_blk_ne w b k c e h]
@[go_sem] theorem putB_set : (putB w b c e).setCell ⟨b, i, none⟩ v = putB w b (c.setIfInBounds i v) e := by
  by_cases h : b < w.heap.size
  · simp only [World.setCell, putB]
    congr 1
    apply Array.ext_getElem?
    intro j
    rw [Array.getElem?_modify]
    simp only [Array.getElem?_setIfInBounds]
    split <;> simp_all
  · have h1 : ∀ x : Obj, w.heap.setIfInBounds b x = w.heap := fun x => by rw [Array.setIfInBounds_eq_of_size_le (by omega)]
    simp only [World.setCell, putB, h1]
    congr 1
    apply Array.ext_getElem?
    intro j
    rw [Array.getElem?_modify]
    split
    · rename_i hj; subst hj; rw [Array.getElem?_eq_none (by omega)]; rfl
    · rfl
theorem putB_set_ne (h : ¬ k = b) : (putB w b c e).setCell ⟨k, i, none⟩ v = putB (w.setCell ⟨k, i, none⟩ v) b c e := by
  simp only [World.setCell, putB]
  congr 1
  apply Array.ext_getElem?
  intro j
  rw [Array.getElem?_modify, Array.getElem?_setIfInBounds, Array.getElem?_setIfInBounds, Array.size_modify, Array.getElem?_modify]
  by_cases h1 : k = j <;> by_cases h2 : b = j <;> simp_all
@[go_sem] theorem putB_set_lt (h : k < b) : (putB w b c e).setCell ⟨k, i, none⟩ v = putB (w.setCell ⟨k, i, none⟩ v) b c e := putB_set_ne w b k i c e v (by omega)
@[go_sem] theorem putB_set_gt (h : b < k) : (putB w b c e).setCell ⟨k, i, none⟩ v = putB (w.setCell ⟨k, i, none⟩ v) b c e := putB_set_ne w b k i c e v (by omega)
theorem Kept.putB {M : Nat → Prop} {a w : World} (h : Kept M a w) {b : Nat} (hb : b < a.heap.size → M b) (c : Array Value) (e : TypeId) : Kept M a (putB w b c e) :=
  ⟨h.os, h.tape, h.output, Nat.le_trans h.size (by simp), fun k hk hn => (putB_blk_ne w b k c e (fun x => hn (by subst x; exact hb hk))).trans (h.block k hk hn)⟩
theorem Kept.putN {M : Nat → Prop} {a w : World} (h : Kept M a w) {b : Nat} (hb : a.heap.size ≤ b) (c : Array Value) (e : TypeId) : Kept M a (Proofs.Ytghgegghlefclaa.putB w b c e) := h.putB (fun x => by omega) c e
theorem Kept.putM {M : Nat → Prop} {a w : World} (h : Kept M a w) {b : Nat} (hb : M b) (c : Array Value) (e : TypeId) : Kept M a (Proofs.Ytghgegghlefclaa.putB w b c e) := h.putB (fun _ => hb) c e
/-- from a world with b written out: as from the world itself, if b may turn -/
theorem Kept.offB {M : Nat → Prop} {w w' : World} {b : Nat} {c : Array Value} {e : TypeId} (h : Kept M w w') (hb : M b) : Kept M (Proofs.Ytghgegghlefclaa.putB w b c e) w' :=
  ⟨h.os, h.tape, h.output, by simpa using h.size, fun k hk hn => by
    rw [putB_blk_ne w b k c e (fun x => hn (by subst x; exact hb))]
    exact h.block k (by simpa using hk) hn⟩
theorem Kept.onB' {M : Nat → Prop} {a w : World} {b : Nat} {c : Array Value} {e : TypeId} (h : Kept M a (Proofs.Ytghgegghlefclaa.putB w b c e)) (hb : M b) : Kept M a w :=
  ⟨h.os, h.tape, h.output, by simpa using h.size, fun k hk hn => by
    have := h.block k hk hn
    rwa [putB_blk_ne w b k c e (fun x => hn (by subst x; exact hb))] at this⟩
theorem Kept.onB {M : Nat → Prop} {w w' : World} {b : Nat} {c : Array Value} {e : TypeId} (h : Kept M (Proofs.Ytghgegghlefclaa.putB w b c e) w') (hb : M b) : Kept M w w' :=
  ⟨h.os, h.tape, h.output, by simpa using h.size, fun k hk hn => by
    have := h.block k (by simpa using hk) hn
    rwa [putB_blk_ne w b k c e (fun x => hn (by subst x; exact hb))] at this⟩
end

/-! ### Slices that read as lists -/
/-- The value is a slice over cells that read as the list; no cell lies in a block of M. -/
def RdS {α : Type} (w : World) (M : Nat → Prop) (sz : Nat) (E : List Value → α → Prop) (v : Value) (xs : List α) : Prop :=
  ∃ a cap, v = .slice a xs.length cap ∧ xs.length ≤ cap ∧ cap ≤ maxLen ∧
    ((xs = [] ∧ cap = 0) ∨ ∃ b off, a = some ⟨b, off, none⟩ ∧
      ∀ i x, xs[i]? = some x → ¬ M b ∧ ∃ cs, E cs x ∧ cs.length = sz ∧ ∀ j u, cs[j]? = some u → w.cell? ⟨b, off + i * sz + j, none⟩ = some u)

section
variable {α : Type} {M M' : Nat → Prop} {w w' : World} {sz : Nat} {E E' : List Value → α → Prop} {v : Value} {xs : List α}
theorem RdS.mono (h : RdS w M sz E v xs) (hm : ∀ i, i < w.heap.size → M' i → M i) (hsz : 0 < sz) (hE : ∀ cs x, E cs x → E' cs x) : RdS w M' sz E' v xs := by
  obtain ⟨a, cap, h1, h2, h3, h4⟩ := h
  refine ⟨a, cap, h1, h2, h3, ?_⟩
  rcases h4 with h4 | ⟨b, off, h5, h6⟩
  · exact .inl h4
  · refine .inr ⟨b, off, h5, fun i x hx => ?_⟩
    obtain ⟨g1, cs, g2, g3, g4⟩ := h6 i x hx
    refine ⟨fun q => g1 (hm b ?_ q), cs, hE _ _ g2, g3, g4⟩
    have := g4 0 (cs[0]'(by omega)) (by simp [hsz, g3])
    exact World.block_lt_of_cell? w _ this
theorem RdS.kept (h : RdS w M sz E v xs) (k : Kept M w w') (hE : ∀ cs x, E cs x → E' cs x) : RdS w' M sz E' v xs := by
  obtain ⟨a, cap, h1, h2, h3, h4⟩ := h
  refine ⟨a, cap, h1, h2, h3, ?_⟩
  rcases h4 with h4 | ⟨b, off, h5, h6⟩
  · exact .inl h4
  · refine .inr ⟨b, off, h5, fun i x hx => ?_⟩
    obtain ⟨g1, cs, g2, g3, g4⟩ := h6 i x hx
    exact ⟨g1, cs, hE _ _ g2, g3, fun j u hj => k.cell (g4 j u hj) g1⟩
theorem RdS.step (h : RdS w M sz E v xs) (k : Kept M w w') (hm : ∀ i, i < w.heap.size → M' i → M i) (hsz : 0 < sz) (hE : ∀ cs x, E cs x → E' cs x) : RdS w' M' sz E' v xs := by
  obtain ⟨a, cap, h1, h2, h3, h4⟩ := h
  refine ⟨a, cap, h1, h2, h3, ?_⟩
  rcases h4 with h4 | ⟨b, off, h5, h6⟩
  · exact .inl h4
  · refine .inr ⟨b, off, h5, fun i x hx => ?_⟩
    obtain ⟨g1, cs, g2, g3, g4⟩ := h6 i x hx
    refine ⟨fun q => g1 (hm b ?_ q), cs, hE _ _ g2, g3, fun j u hj => k.cell (g4 j u hj) g1⟩
    have := g4 0 (cs[0]'(by omega)) (by simp [hsz, g3])
    exact World.block_lt_of_cell? w _ this
/-- the shape: nil, or an address and its cells -/
theorem RdS.shape (h : RdS w M sz E v xs) : ∃ a cap, v = .slice a xs.length cap ∧ xs.length ≤ cap ∧ cap ≤ maxLen := by
  obtain ⟨a, cap, h1, h2, h3, _⟩ := h; exact ⟨a, cap, h1, h2, h3⟩
theorem RdS.nil (w : World) (M : Nat → Prop) (sz : Nat) (E : List Value → α → Prop) : RdS w M sz E (.slice none 0 0) [] :=
  ⟨none, 0, rfl, Nat.le_refl _, Nat.zero_le _, .inl ⟨rfl, rfl⟩⟩
/-- an element -/
theorem RdS.at {a : Option Addr} {n cap : Nat} (h : RdS w M sz E (.slice a n cap) xs) {i : Nat} {x : α} (hx : xs[i]? = some x) :
    ∃ b off, a = some ⟨b, off, none⟩ ∧ ¬ M b ∧ ∃ cs, E cs x ∧ cs.length = sz ∧ ∀ j u, cs[j]? = some u → w.cell? ⟨b, off + i * sz + j, none⟩ = some u := by
  obtain ⟨a', cap', h1, h2, h3, h4⟩ := h
  simp only [Value.slice.injEq] at h1
  obtain ⟨rfl, rfl, rfl⟩ := h1
  rcases h4 with ⟨rfl, _⟩ | ⟨b, off, h5, h6⟩
  · simp at hx
  · obtain ⟨g1, g2⟩ := h6 i x hx
    exact ⟨b, off, h5, g1, g2⟩
/-- a part of it: 's[lo:hi]' -/
theorem RdS.sub {b off n cap : Nat} (h : RdS w M sz E (.slice (some ⟨b, off, none⟩) n cap) xs) (lo hi : Nat) (h1 : lo ≤ hi) (h2 : hi ≤ xs.length) (m : Nat) (hm : m = hi - lo) (cap' : Nat) (hc1 : hi - lo ≤ cap') (hc2 : cap' ≤ maxLen) (off' : Nat) (ho : off' = off + lo * sz) :
    RdS w M sz E (.slice (some ⟨b, off', none⟩) m cap') ((xs.take hi).drop lo) := by
  obtain ⟨a', c', e1, e2, e3, e4⟩ := h
  simp only [Value.slice.injEq] at e1
  obtain ⟨rfl, rfl, rfl⟩ := e1
  have hl : ((xs.take hi).drop lo).length = hi - lo := by simp; omega
  refine ⟨_, _, by rw [hl, hm], by omega, hc2, ?_⟩
  rcases e4 with ⟨rfl, _⟩ | ⟨b', off'', e5, e6⟩
  · exact .inr ⟨_, _, rfl, fun i x hx => by simp at hx⟩
  · simp only [Option.some.injEq, Addr.mk.injEq] at e5
    obtain ⟨rfl, rfl, _⟩ := e5
    refine .inr ⟨_, _, rfl, fun i x hx => ?_⟩
    have hx' : xs[lo + i]? = some x := by
      rw [List.getElem?_drop, List.getElem?_take] at hx
      split at hx
      · exact hx
      · cases hx
    obtain ⟨g1, cs, g2, g3, g4⟩ := e6 _ _ hx'
    refine ⟨g1, cs, g2, g3, fun j u hj => ?_⟩
    have := g4 j u hj
    rw [ho]
    rw [show off + lo * sz + i * sz + j = off + (lo + i) * sz + j by rw [Nat.add_mul]; omega]
    exact this
theorem RdS.addr {a : Option Addr} {n cap : Nat} (h : RdS w M sz E (.slice a n cap) xs) : n = xs.length ∧ xs.length ≤ cap ∧ ((xs = [] ∧ cap = 0) ∨ ∃ b off, a = some ⟨b, off, none⟩) := by
  obtain ⟨a', c', e1, e2, e3, e4⟩ := h
  simp only [Value.slice.injEq] at e1
  obtain ⟨rfl, rfl, rfl⟩ := e1
  refine ⟨rfl, e2, ?_⟩
  rcases e4 with e4 | ⟨b, off, e5, _⟩
  · exact .inl e4
  · exact .inr ⟨b, off, e5⟩
theorem run_slice_lh {P : Program} (T e : TypeId) (i : TypeInfo) (hT : P.underlying T = some (.slice e)) (hin : P.info? e = some i) (a : Option Addr) (n cap lo hi : Nat) (h1 : lo ≤ hi) (h2 : hi ≤ cap) (low : Option Value) (hlow : low = some (.int .i64 lo) ∨ (low = none ∧ lo = 0)) (wx : World) :
    (Instr.slice T (.slice a n cap) low (some (.int .i64 hi)) none).run P wx = .ok (.slice (if cap = lo then a else a.map (·.add (lo * i.size))) (hi - lo) (cap - lo)) wx := by
  have g1 : (0 : Int) ≤ hi := by omega
  have g2 : (hi : Int) ≤ cap := by omega
  have g3 : (0 : Int) ≤ lo := by omega
  have g4 : (lo : Int) ≤ hi := by omega
  rcases hlow with rfl | ⟨rfl, rfl⟩
  · simp [Instr.slice, Instr.sliceBounds, Instr.sliceBound, asIntOf, run_underlying hT, sizeOf, typeInfo, hin, h1, h2]
  · simp [Instr.slice, Instr.sliceBounds, Instr.sliceBound, asIntOf, run_underlying hT, sizeOf, typeInfo, hin, h2]
/-- 's[lo:hi]': the run, and what its value reads as -/
theorem RdS.slice {P : Program} (T e : TypeId) (i : TypeInfo) (hT : P.underlying T = some (.slice e)) (hin : P.info? e = some i) (hsz : i.size = sz) {a : Option Addr} {n cap : Nat} (h : RdS w M sz E (.slice a n cap) xs) (lo hi : Nat) (h1 : lo ≤ hi) (h2 : hi ≤ xs.length)
    (low : Option Value) (hlow : low = some (.int .i64 lo) ∨ (low = none ∧ lo = 0)) :
    ∃ sa sc, (∀ wx, (Instr.slice T (.slice a n cap) low (some (.int .i64 hi)) none).run P wx = .ok (.slice sa (hi - lo) sc) wx) ∧ RdS w M sz E (.slice sa (hi - lo) sc) ((xs.take hi).drop lo) := by
  obtain ⟨rfl, hc, ha⟩ := h.addr
  have hcm : cap ≤ maxLen := by obtain ⟨a', c', e1, _, e3, _⟩ := h; simp only [Value.slice.injEq] at e1; rw [e1.2.2]; exact e3
  refine ⟨_, _, fun wx => run_slice_lh T e i hT hin a xs.length cap lo hi h1 (by omega) low hlow wx, ?_⟩
  rcases ha with ⟨rfl, rfl⟩ | ⟨b, off, rfl⟩
  · simp only [List.length_nil, Nat.le_zero] at h2
    subst h2
    obtain rfl : lo = 0 := by omega
    simp only [List.take_nil, List.drop_nil, ↓reduceIte]
    exact ⟨a, 0, rfl, Nat.le_refl _, Nat.zero_le _, .inl ⟨rfl, rfl⟩⟩
  · have hs : (if cap = lo then (some (⟨b, off, none⟩ : Addr)) else (some (⟨b, off, none⟩ : Addr)).map (·.add (lo * i.size))) = some ⟨b, if cap = lo then off else off + lo * i.size, none⟩ := by
      split
      · rfl
      · simp only [Option.map_some, Addr.add]
        split
        · rename_i h0; rw [h0]; rfl
        · rfl
    rw [hs]
    by_cases hcl : cap = lo
    · rw [if_pos hcl]
      have : hi - lo = 0 := by omega
      have he : ((xs.take hi).drop lo) = [] := List.eq_nil_of_length_eq_zero (by simp; omega)
      rw [he, this]
      refine ⟨_, _, rfl, Nat.zero_le _, by omega, .inr ⟨b, off, rfl, fun i x hx => by simp at hx⟩⟩
    · rw [if_neg hcl]
      exact h.sub lo hi h1 h2 (hi - lo) rfl (cap - lo) (by omega) (by omega) _ (by rw [hsz])
end
end Go.Proofs.Ytghgegghlefclaa
