/- Texts that belong together: Deed, SC, SD, SE. -/
import Derived.Test.YtgohploghbimlaaDoorProg
import Derived.Test.YtgohploghbimlaaDoorKBase
import Derived.Test.YtgohploghbimlaaDoorKOwn
import Derived.Test.YtgohploghbimlaaDoorKPlain
set_option linter.unusedVariables false
set_option linter.unusedSimpArgs false
set_option linter.unusedSectionVars false
/- A deed in memory: a replica, and the letters that it sends; the types' tables. -/
namespace Go.Proofs.YtgohploghbimlaaDoor
open Go.RowKit
theorem tyLets : SlTy Tryd.prog 25 57 9 88 :=
  SlTy.of (.agg #[.int .i64 0, .int .i64 0, .int .i64 0, .int .i64 0, .int .i64 0, .int .i64 0, .slice none 0 0, .int .i64 0, .bool false]) (by kernel_rfl) (by kernel_rfl) rfl (by omega)
theorem tyInts : SlTy Tryd.prog 30 3 1 8 := SlTy.of (.int .i64 0) (by kernel_rfl) (by kernel_rfl) rfl (by omega)
theorem tyBools : SlTy Tryd.prog 29 4 1 1 := SlTy.of (.bool false) (by kernel_rfl) (by kernel_rfl) rfl (by omega)
theorem tyItems : SlTy Tryd.prog 28 45 2 24 := SlTy.of (.agg #[.int .i64 0, .string ByteArray.empty]) (by kernel_rfl) (by kernel_rfl) rfl (by omega)
theorem tyReps : SlTy Tryd.prog 24 32 9 120 :=
  SlTy.of (.agg #[.int .i64 0, .int .i64 0, .int .i64 0, .int .i64 0, .int .i64 0, .slice none 0 0, .int .i64 0, .slice none 0 0, .slice none 0 0]) (by kernel_rfl) (by kernel_rfl) rfl (by omega)
theorem tyStrs : SlTy Tryd.prog 48 9 1 16 := SlTy.of (.string ByteArray.empty) (by kernel_rfl) (by kernel_rfl) rfl (by omega)
theorem eInt_one : ∀ c x, EInt c x → ∀ u ∈ c, u.oneCell' = true := by rintro c x rfl u hu; simp at hu; subst hu; rfl
theorem eBool_one : ∀ c x, EBool c x → ∀ u ∈ c, u.oneCell' = true := by rintro c x rfl u hu; simp at hu; subst hu; rfl
theorem eItem_one : ∀ c x, EItem c x → ∀ u ∈ c, u.oneCell' = true := by
  rintro c x rfl u hu
  simp at hu
  rcases hu with rfl | rfl <;> rfl
theorem eLet_one {w : World} {M : Nat → Prop} : ∀ c x, ELet w M c x → ∀ u ∈ c, u.oneCell' = true := by
  rintro c x ⟨iv, rfl, h⟩ u hu
  obtain ⟨a, cap, rfl, _⟩ := h.shape
  simp at hu
  rcases hu with rfl | rfl | rfl | rfl | rfl | rfl | rfl | rfl | rfl <;> rfl
theorem eRep_one {w : World} {M : Nat → Prop} : ∀ c x, ERep w M c x → ∀ u ∈ c, u.oneCell' = true := by
  rintro c x ⟨lv, vv, mv, rfl, h1, h2, h3⟩ u hu
  obtain ⟨a, cap, rfl, _⟩ := h1.shape
  obtain ⟨a, cap, rfl, _⟩ := h2.shape
  obtain ⟨a, cap, rfl, _⟩ := h3.shape
  simp at hu
  rcases hu with rfl | rfl | rfl | rfl | rfl | rfl | rfl | rfl | rfl <;> rfl

/-- the cells that a deed may turn: its own block, its letters' block -/
def MD (D : Nat) (O : Option Nat) : Nat → Prop := fun k => k = D ∨ some k = O

theorem MD.sub {w : World} {D : Nat} {O O' : Option Nat} (hn : NewO w O O') : ∀ i, i < w.heap.size → MD D O' i → MD D O i := by
  rintro i hi (h | h)
  · exact .inl h
  · rcases hn with rfl | ⟨g, hg, hg2⟩
    · exact .inr h
    · rw [hg] at h
      simp only [Option.some.injEq] at h
      omega
theorem NewO.ne {w : World} {D : Nat} {O O' : Option Nat} (hn : NewO w O O') (h : O ≠ some D) (hD : D < w.heap.size) : O' ≠ some D := by
  rcases hn with rfl | ⟨g, rfl, hg⟩
  · exact h
  · simp only [ne_eq, Option.some.injEq]; omega
theorem NewO.of_le {w w1 : World} {O O' : Option Nat} (hn : NewO w1 O O') (h : w.heap.size ≤ w1.heap.size) : NewO w O O' := by
  rcases hn with rfl | ⟨g, rfl, hg⟩
  · exact .inl rfl
  · exact .inr ⟨g, rfl, by omega⟩
theorem keptD (w0 : World) (D : Nat) (c : Array Value) : Kept (fun k => k = D) w0 (putB w0 D c 77) := (Kept.refl (fun k => k = D) w0).putM (b := D) rfl _ _
/-- blocks in which nothing that is read may lie -/
def Away [A : Inhabited (Nat → Prop)] : Nat → Prop := A.default
variable [A : Inhabited (Nat → Prop)]
/-- the cells in which nothing that a deed reads may lie: these, the block before its own (the handler's result), and those that are named as away -/
def ND (D : Nat) (O : Option Nat) : Nat → Prop := fun k => k = D ∨ some k = O ∨ (k < D ∧ (k + 1 = D ∨ Away k))
theorem ND.of {D : Nat} {O : Option Nat} {k : Nat} (h : MD D O k) : ND D O k := h.imp id .inl
theorem Kept.nd {D : Nat} {O : Option Nat} {a b : World} (h : Kept (MD D O) a b) : Kept (ND D O) a b := h.mono fun _ _ => ND.of
/-- a deed at block D: the replica r; it has sent ls; O: the letters' block -/
def Deed (w : World) (D : Nat) (O : Option Nat) (r : Rep) (ls : List Let) : Prop :=
  ∃ lv vv mv tv, w.heap[D]? = some (.cells #[.int .i64 r.id, .int .i64 r.count, .int .i64 r.epoch, .int .i64 r.voted, .int .i64 r.role, lv, .int .i64 r.conf, vv, mv, tv] 77 (0, 0)) ∧
    RdItems w (ND D O) lv r.log ∧ RdBools w (ND D O) vv r.votes ∧ RdInts w (ND D O) mv r.mat ∧ OwnS w O 57 9 (ELet w (ND D O)) tv ls ∧ O ≠ some D
/-- a method's step: the deed is now r with the letters ls; all else is as it was -/
def DStep (D : Nat) (O : Option Nat) (w : World) (r : Rep) (ls : List Let) (w' : World) : Prop :=
  ∃ O', Deed w' D O' r ls ∧ Kept (MD D O) w w' ∧ NewO w O O'
theorem Deed.kept0 {w w' : World} {D : Nat} {O : Option Nat} {r : Rep} {ls : List Let} (h : Deed w D O r ls) (k : Kept NoM w w') : Deed w' D O r ls := by
  obtain ⟨lv, vv, mv, tv, h1, h2, h3, h4, h5, h6⟩ := h
  exact ⟨lv, vv, mv, tv, k.blk h1 (fun x => x), h2.kept k.of_no, h3.kept k.of_no, h4.kept k.of_no, h5.kept k (fun _ _ x => x) (fun _ _ x => x.kept k.of_no), h6⟩
theorem Deed.lt {w : World} {D : Nat} {O : Option Nat} {r : Rep} {ls : List Let} (h : Deed w D O r ls) : D < w.heap.size ∧ ∀ g, O = some g → g < w.heap.size := by
  obtain ⟨lv, vv, mv, tv, h1, h2, h3, h4, h5, h6⟩ := h
  exact ⟨lt_of_block h1, h5.lt⟩
theorem Deed.out {w : World} {D : Nat} {O : Option Nat} {r : Rep} {ls : List Let} (h : Deed w D O r ls) : ∀ g, w.heap.size ≤ g → ¬ ND D O g := by
  rintro g hg (h1 | h1 | h1)
  · have := h.lt.1; omega
  · have := h.lt.2 g h1.symm; omega
  · have := h.lt.1; omega
theorem ND.sub {w : World} {D : Nat} {O O' : Option Nat} (hn : NewO w O O') : ∀ i, i < w.heap.size → ND D O' i → ND D O i := by
  rintro i hi (h | h | h)
  · exact .inl h
  · rcases hn with rfl | ⟨g, hg, hg2⟩
    · exact .inr (.inl h)
    · rw [hg] at h
      simp only [Option.some.injEq] at h
      omega
  · exact .inr (.inr h)
/-- the end of a method that leaves log, votes, match as they were -/
theorem DStep.mk {w0 w' : World} {D : Nat} {O O' : Option Nat} {c : Array Value} {r : Rep} {ls : List Let} {lv vv mv tv : Value} (zD : D < w0.heap.size) (hOD : O ≠ some D)
    (K : Kept (MD D O) w0 w') (hb : w'.heap[D]? = some (.cells #[.int .i64 r.id, .int .i64 r.count, .int .i64 r.epoch, .int .i64 r.voted, .int .i64 r.role, lv, .int .i64 r.conf, vv, mv, tv] 77 (0, 0)))
    (qlv : RdItems w0 (ND D O) lv r.log) (qvv : RdBools w0 (ND D O) vv r.votes) (qmv : RdInts w0 (ND D O) mv r.mat)
    (hown : OwnS w' O' 57 9 (ELet w0 (ND D O)) tv ls) (hn : NewO w0 O O') : DStep D O (putB w0 D c 77) r ls w' := by
  have hs : ∀ i, i < w0.heap.size → ND D O' i → ND D O i := ND.sub hn
  exact ⟨O', ⟨lv, vv, mv, tv, hb, qlv.step K.nd hs, qvv.step K.nd hs, qmv.step K.nd hs, hown.map (fun _ _ h => h.step K.nd hs), hn.ne hOD zD⟩, K.offB (.inl rfl), hn.of_le (by simp)⟩
/-- the same where no letter was sent -/
theorem DStep.mk0 {w0 w' : World} {D : Nat} {O : Option Nat} {c : Array Value} {r : Rep} {ls : List Let} {lv vv mv tv : Value} (zD : D < w0.heap.size) (hOD : O ≠ some D)
    (K : Kept (fun k => k = D) w0 w') (hb : w'.heap[D]? = some (.cells #[.int .i64 r.id, .int .i64 r.count, .int .i64 r.epoch, .int .i64 r.voted, .int .i64 r.role, lv, .int .i64 r.conf, vv, mv, tv] 77 (0, 0)))
    (qlv : RdItems w0 (ND D O) lv r.log) (qvv : RdBools w0 (ND D O) vv r.votes) (qmv : RdInts w0 (ND D O) mv r.mat)
    (qown : OwnS w0 O 57 9 (ELet w0 (ND D O)) tv ls) : DStep D O (putB w0 D c 77) r ls w' :=
  DStep.mk zD hOD (K.mono fun _ _ h => .inl h) hb qlv qvv qmv (qown.kept K (fun g hg h => hOD (by rw [hg, h])) (fun _ _ h => h)) (NewO.refl _ _)
/-- where what it reads has turned -/
theorem DStep.mk1 {w0 w' : World} {D : Nat} {O : Option Nat} {c : Array Value} {r : Rep} {ls : List Let} {lv vv mv tv : Value} (zD : D < w0.heap.size) (hOD : O ≠ some D)
    (K : Kept (fun k => k = D) w0 w') (hb : w'.heap[D]? = some (.cells #[.int .i64 r.id, .int .i64 r.count, .int .i64 r.epoch, .int .i64 r.voted, .int .i64 r.role, lv, .int .i64 r.conf, vv, mv, tv] 77 (0, 0)))
    (qlv : RdItems w' (ND D O) lv r.log) (qvv : RdBools w' (ND D O) vv r.votes) (qmv : RdInts w' (ND D O) mv r.mat)
    (qown : OwnS w0 O 57 9 (ELet w0 (ND D O)) tv ls) : DStep D O (putB w0 D c 77) r ls w' :=
  ⟨O, ⟨lv, vv, mv, tv, hb, qlv, qvv, qmv, qown.kept K (fun g hg h => hOD (by rw [hg, h])) (fun _ _ h => h.kept (K.mono fun _ _ h => .inl h)), hOD⟩, (K.mono fun _ _ h => .inl h).offB (.inl rfl), NewO.refl _ _⟩
theorem DStep.deed {D : Nat} {O : Option Nat} {w w' : World} {r : Rep} {ls : List Let} (h : DStep D O w r ls w') : ∃ O', Deed w' D O' r ls ∧ Kept (MD D O) w w' ∧ NewO w O O' := h
theorem DStep.trans {D : Nat} {O O1 : Option Nat} {w w1 w2 : World} {r r2 : Rep} {ls ls2 : List Let} (hk : Kept (MD D O) w w1) (hn : NewO w O O1) (h : DStep D O1 w1 r2 ls2 w2) : DStep D O w r2 ls2 w2 := by
  obtain ⟨O2, h1, h2, h3⟩ := h
  exact ⟨O2, h1, hk.trans' h2 (MD.sub hn), hn.trans h3 hk.size⟩
end Go.Proofs.YtgohploghbimlaaDoor

/- Owned slices of rows of cells: the block written out, a row set. The law's world of replicas and letters. -/
namespace Go.Proofs.YtgohploghbimlaaDoor
open Go.RowKit
section
variable {α : Type} {w : World} {O : Option Nat} {e : TypeId} {sz : Nat} {E E' : List Value → α → Prop} {v : Value} {xs : List α}
/-- the cells hold the list's elements, row by row -/
def Rows (sz : Nat) (E : List Value → α → Prop) (cur : Array Value) (xs : List α) : Prop :=
  ∀ (i : Nat) (x : α), xs[i]? = some x → ∃ c, E c x ∧ c.length = sz ∧ ∀ j u, c[j]? = some u → cur[i * sz + j]? = some u
theorem Rows.map {cur : Array Value} (h : Rows sz E cur xs) (hE : ∀ c x, E c x → E' c x) : Rows sz E' cur xs := fun i x hx =>
  let ⟨c, h1, h2, h3⟩ := h i x hx; ⟨c, hE _ _ h1, h2, h3⟩
theorem Rows.set {cur cur' : Array Value} {i : Nat} {x : α} (h : Rows sz E cur xs) (c : List Value) (hE : E c x) (hl : c.length = sz)
    (h1 : ∀ j u, c[j]? = some u → cur'[i * sz + j]? = some u) (h2 : ∀ k, (k < i * sz ∨ i * sz + sz ≤ k) → cur'[k]? = cur[k]?) : Rows sz E cur' (xs.set i x) := by
  intro k y hy
  rw [List.getElem?_set] at hy
  split at hy
  · next hik =>
    subst hik
    split at hy
    · cases hy; exact ⟨c, hE, hl, h1⟩
    · cases hy
  · next hne =>
    obtain ⟨d, d1, d2, d3⟩ := h k y hy
    refine ⟨d, d1, d2, fun j u hu => ?_⟩
    have hj : j < sz := by rw [← d2]; exact (List.getElem?_eq_some_iff.1 hu).1
    rw [h2, d3 j u hu]
    rcases Nat.lt_or_gt_of_ne hne with h | h
    · right
      have := Nat.mul_le_mul_right sz (show i + 1 ≤ k from h)
      rw [Nat.add_mul, Nat.one_mul] at this
      omega
    · left
      have := Nat.mul_le_mul_right sz (show k + 1 ≤ i from h)
      rw [Nat.add_mul, Nat.one_mul] at this
      omega
theorem seg_flatten (l : List Value) (sz : Nat) : ∀ n, ((List.range n).map (fun i => (l.drop (i * sz)).take sz)).flatten = l.take (n * sz) := by
  intro n
  induction n with
  | zero => simp
  | succ n ih =>
    rw [List.range_succ, List.map_append, List.flatten_append, ih, Nat.succ_mul, List.take_add]
    simp
theorem OwnS.openN (h : OwnS w O e sz E v xs) (hn : 0 < xs.length) :
    ∃ g cap cur, v = .slice (some ⟨g, 0, none⟩) xs.length cap ∧ O = some g ∧ w.heap[g]? = some (.cells cur e (0, 0)) ∧ xs.length ≤ cap ∧ cap ≤ maxLen ∧ cur.size = cap * sz ∧ Rows sz E cur xs := by
  obtain ⟨cs, h1, h2, h3, h4⟩ := h.lens
  have h0 := h.1
  rcases h1.2 with ⟨rfl, hz⟩ | ⟨g, cap, cur, rfl, _, hg, hc, hm, hs, ht⟩
  · omega
  · refine ⟨g, cap, cur, rfl, by simpa [Value.ownBlock] using h0.symm, hg, hc, hm, hs, fun i x hx => ?_⟩
    have hi : i < xs.length := (List.getElem?_eq_some_iff.1 hx).1
    have hci : cs[i]? = some (cs[i]'(by omega)) := by simp [h2, hi]
    obtain ⟨g1, g2⟩ := h3 i _ x hci hx
    refine ⟨_, g2, g1, fun j u hu => ?_⟩
    have hf := flatten_at h4 i j _ u hci hu
    rw [← ht, List.getElem?_take] at hf
    split at hf
    · simpa using hf
    · cases hf
theorem OwnS.closeN {g cap : Nat} {cur : Array Value} (hg : w.heap[g]? = some (.cells cur e (0, 0))) (n : Nat) (hl : xs.length = n) (hc : n ≤ cap) (hm : cap ≤ maxLen) (hs : cur.size = cap * sz) (hr : Rows sz E cur xs) :
    OwnS w (some g) e sz E (.slice (some ⟨g, 0, none⟩) n cap) xs := by
  subst hl
  have hns : xs.length * sz ≤ cur.size := by rw [hs]; exact Nat.mul_le_mul_right _ hc
  have hseg : ∀ i x, xs[i]? = some x → ((cur.toList.drop (i * sz)).take sz).length = sz ∧ E ((cur.toList.drop (i * sz)).take sz) x := by
    intro i x hx
    have hi : i < xs.length := (List.getElem?_eq_some_iff.1 hx).1
    have h1 := Nat.mul_le_mul_right sz (show i + 1 ≤ xs.length from hi)
    rw [Nat.add_mul, Nat.one_mul] at h1
    have hlen : ((cur.toList.drop (i * sz)).take sz).length = sz := by simp; omega
    refine ⟨hlen, ?_⟩
    obtain ⟨c, c1, c2, c3⟩ := hr i x hx
    have : (cur.toList.drop (i * sz)).take sz = c := by
      apply List.ext_getElem?
      intro j
      by_cases hj : j < sz
      · have hcj : c[j]? = some (c[j]'(by omega)) := by simp [c2, hj]
        rw [hcj, List.getElem?_take, if_pos hj, List.getElem?_drop]
        simpa using c3 j _ hcj
      · rw [List.getElem?_eq_none (by omega), List.getElem?_eq_none (by omega)]
    rw [this]; exact c1
  refine ⟨rfl, (List.range xs.length).map (fun i => (cur.toList.drop (i * sz)).take sz), ⟨?_, .inr ⟨g, cap, cur, rfl, Nat.zero_le _, hg, hc, hm, by simpa using hs, ?_⟩⟩, by simp, fun i c x hc hx => ?_⟩
  · rw [seg_flatten]; simp; omega
  · rw [seg_flatten]
  · have hi : i < xs.length := (List.getElem?_eq_some_iff.1 hx).1
    rw [List.getElem?_map, List.getElem?_range hi] at hc
    simp only [Option.map_some, Option.some.injEq] at hc
    subst hc
    exact hseg i x hx
end

/-- the blocks of the law's world: its struct, the replicas, the letters -/
def MX (W : Nat) (OR OL : Option Nat) : Nat → Prop := fun k => k = W ∨ some k = OR ∨ some k = OL
/-- blocks beside the law's world, in which nothing that it reads lies -/
class Beside where
  blk : Nat → Prop
def RX [B : Beside] (W : Nat) (OR OL : Option Nat) : Nat → Prop := fun k => MX W OR OL k ∨ B.blk k
variable [BB : Beside]
/-- the law's world at block W: replicas and letters -/
def WState (w : World) (W : Nat) (OR OL : Option Nat) (s : WS) : Prop :=
  ∃ rv lv, w.heap[W]? = some (.cells #[rv, lv] 27 (0, 0)) ∧ OwnS w OR 32 9 (ERep w (RX W OR OL)) rv s.reps ∧ OwnS w OL 57 9 (ELet w (RX W OR OL)) lv s.lets ∧
    OR ≠ some W ∧ OL ≠ some W ∧ (∀ g, OR = some g → OL ≠ some g) ∧ ∀ k, BB.blk k → k < w.heap.size
theorem WState.lt {w : World} {W : Nat} {OR OL : Option Nat} {s : WS} (h : WState w W OR OL s) : ∀ k, RX W OR OL k → k < w.heap.size := by
  obtain ⟨rv, lv, h1, h2, h3, _, _, _, hBs⟩ := h
  rintro k ((h | h | h) | h)
  · subst h; exact lt_of_block h1
  · exact h2.lt _ h.symm
  · exact h3.lt _ h.symm
  · exact hBs k h
theorem WState.kept {w w' : World} {W : Nat} {OR OL : Option Nat} {s : WS} (h : WState w W OR OL s) (k : Kept NoM w w') : WState w' W OR OL s := by
  obtain ⟨rv, lv, h1, h2, h3, h4, h5, h6, hBs⟩ := h
  exact ⟨rv, lv, k.blk h1 (fun x => x), h2.kept k (fun _ _ x => x) (fun _ _ x => x.kept k.of_no), h3.kept k (fun _ _ x => x) (fun _ _ x => x.kept k.of_no), h4, h5, h6, fun i hi => Nat.lt_of_lt_of_le (hBs i hi) k.size⟩
end Go.Proofs.YtgohploghbimlaaDoor

/- The law's play: what its calls gave back, in memory. -/
namespace Go.Proofs.YtgohploghbimlaaDoor
open Go.RowKit
set_option linter.unusedSectionVars false
variable [BB : Beside]
/-- what play does: it returns true; the law's world is s' -/
def Played (w : World) (W : Nat) (OR OL : Option Nat) (s' : WS) (e : Ending) (w' : World) : Prop :=
  e = .returned (.bool true) ∧ ∃ OR' OL', WState w' W OR' OL' s' ∧ Kept (MX W OR OL) w w' ∧ NewO w OR OR' ∧ NewO w OL OL'
/-- where what a call gave back does not lie: the law's blocks, and what was made since w, before the call -/
def New (w W1 : World) (M : Nat → Prop) : Nat → Prop := fun i => i < W1.heap.size ∧ (M i ∨ w.heap.size ≤ i)
theorem newX {M : Nat → Prop} {n : Nat} : ∀ i, i < n → M i ∨ n ≤ i → M i := fun i h x => x.elim id (fun x => by omega)
/-- a replica's nine cells -/
def repC (r : Rep) (lv vv mv : Value) : Array Value := #[.int .i64 r.id, .int .i64 r.count, .int .i64 r.epoch, .int .i64 r.voted, .int .i64 r.role, lv, .int .i64 r.conf, vv, mv]
/-- a replica that a call of the program gave back lies in a block that is new -/
def Got (w : World) (N : Nat) (M : Nat → Prop) (r : Rep) (c : Value) (wx : World) : Prop :=
  ∃ b lv vv mv, c = .pointer (some ⟨b, 0, none⟩) ∧ N ≤ b ∧ wx.heap[b]? = some (.cells (repC r lv vv mv) 32 (0, 0)) ∧
    RdItems wx M lv r.log ∧ RdBools wx M vv r.votes ∧ RdInts wx M mv r.mat ∧ Kept NoM w wx
/-- so does what a call of the specification gave back -/
def Want (w : World) (N : Nat) (r : Rep) (ls : List Let) (er : Int) (c : Value) (wx : World) : Prop :=
  ∃ b lv vv mv tv, c = .pointer (some ⟨b, 0, none⟩) ∧ N ≤ b ∧ wx.heap[b]? = some (.cells #[.int .i64 r.id, .int .i64 r.count, .int .i64 r.epoch, .int .i64 r.voted, .int .i64 r.role, lv, .int .i64 r.conf, vv, mv, tv, .int .i64 er] 62 (0, 0)) ∧
    RdItems wx NoM lv r.log ∧ RdBools wx NoM vv r.votes ∧ RdInts wx NoM mv r.mat ∧ RdLets wx NoM tv ls ∧ Kept NoM w wx
theorem Got.base {w wb wx : World} {N N' : Nat} {M : Nat → Prop} {r : Rep} {c : Value} (h : Got wb N M r c wx) (k : Kept NoM w wb) (hN : N' ≤ N) : Got w N' M r c wx := by
  obtain ⟨b, lv, vv, mv, h1, h2, h3, h4, h5, h6, h7⟩ := h
  exact ⟨b, lv, vv, mv, h1, by omega, h3, h4, h5, h6, k.trans h7⟩
theorem Want.base {w wb wx : World} {N N' : Nat} {r : Rep} {ls : List Let} {er : Int} {c : Value} (h : Want wb N r ls er c wx) (k : Kept NoM w wb) (hN : N' ≤ N) : Want w N' r ls er c wx := by
  obtain ⟨b, lv, vv, mv, tv, h1, h2, h3, h4, h5, h6, h7, h8⟩ := h
  exact ⟨b, lv, vv, mv, tv, h1, by omega, h3, h4, h5, h6, h7, k.trans h8⟩
section
variable {w w0 w2 w3 W1 : World} {M : Nat → Prop} {r : Rep} {ls : List Let} {lv vv mv tv : Value} {N : Nat}
theorem got_new (hM : ∀ i, M i → i < w0.heap.size) (hN : N ≤ w0.heap.size) (h1 : w0.heap.size ≤ W1.heap.size) (q1 : RdItems w2 (New w W1 M) lv r.log) (q2 : RdBools w2 (New w W1 M) vv r.votes) (q3 : RdInts w2 (New w W1 M) mv r.mat) (q4 : RdLets w2 (New w W1 M) tv ls) (k : Kept NoM w0 w2) :
    Got w0 N M r (.pointer (some ⟨w2.heap.size, 0, none⟩)) (w2.alloc (.cells (repC r lv vv mv) 32 (0, 0))) ∧ RdLets (w2.alloc (.cells (repC r lv vv mv) 32 (0, 0))) M tv ls := by
  have hx : ∀ i, i < w2.heap.size → M i → New w W1 M i := fun i _ h => ⟨Nat.lt_of_lt_of_le (hM i h) h1, .inl h⟩
  have K : Kept M w2 (w2.alloc (.cells (repC r lv vv mv) 32 (0, 0))) := (Kept.refl M w2).alloc _
  have := k.size
  exact ⟨⟨_, lv, vv, mv, rfl, by omega, blk_new _ _, (q1.mono hx).kept K, (q2.mono hx).kept K, (q3.mono hx).kept K, k.alloc _⟩, (q4.mono hx).kept K⟩
theorem got_old {c0 : Array Value} {B : Nat} (hM : ∀ i, M i → i < w0.heap.size) (hN : N ≤ w0.heap.size) (h0 : w.heap.size ≤ w0.heap.size) (hB : B = w0.heap.size) (h1 : B < W1.heap.size) (z3 : B < w3.heap.size) (q1 : RdItems (putB w3 B c0 32) (New w W1 M) lv r.log) (q2 : RdBools (putB w3 B c0 32) (New w W1 M) vv r.votes)
    (q3 : RdInts (putB w3 B c0 32) (New w W1 M) mv r.mat) (q4 : RdLets (putB w3 B c0 32) (New w W1 M) tv ls) (k : Kept NoM w0 w3) :
    Got w0 N M r (.pointer (some ⟨B, 0, none⟩)) (putB w3 B (repC r lv vv mv) 32) ∧ RdLets (putB w3 B (repC r lv vv mv) 32) M tv ls := by
  subst hB
  have hx : ∀ i, i < (putB w3 w0.heap.size c0 32).heap.size → M i → New w W1 M i := fun i _ h => ⟨by have := hM i h; omega, .inl h⟩
  have hb : New w W1 M w0.heap.size := ⟨h1, .inr h0⟩
  have K : Kept (New w W1 M) (putB w3 w0.heap.size c0 32) (putB w3 w0.heap.size (repC r lv vv mv) 32) := ((Kept.refl (New w W1 M) w3).putM hb _ _).offB hb
  have hy : ∀ i, i < (putB w3 w0.heap.size (repC r lv vv mv) 32).heap.size → M i → New w W1 M i := fun i _ h => ⟨by have := hM i h; omega, .inl h⟩
  exact ⟨⟨_, lv, vv, mv, rfl, by omega, putB_blk _ _ _ _ z3, (q1.kept K).mono hy, (q2.kept K).mono hy, (q3.kept K).mono hy, k.putN (Nat.le_refl _) _ _⟩, (q4.kept K).mono hy⟩
theorem want_new {er : Int} (hN : N ≤ w0.heap.size) (q1 : RdItems w2 M lv r.log) (q2 : RdBools w2 M vv r.votes) (q3 : RdInts w2 M mv r.mat) (q4 : RdLets w2 M tv ls) (k : Kept NoM w0 w2) :
    Want w0 N r ls er (.pointer (some ⟨w2.heap.size, 0, none⟩)) (w2.alloc (.cells #[.int .i64 r.id, .int .i64 r.count, .int .i64 r.epoch, .int .i64 r.voted, .int .i64 r.role, lv, .int .i64 r.conf, vv, mv, tv, .int .i64 er] 62 (0, 0))) := by
  have hx : ∀ i, i < w2.heap.size → NoM i → M i := fun i _ h => h.elim
  have K : ∀ o, Kept NoM w2 (w2.alloc o) := fun o => (Kept.refl NoM w2).alloc o
  have := k.size
  exact ⟨_, lv, vv, mv, tv, rfl, by omega, blk_new _ _, (q1.mono hx).kept (K _), (q2.mono hx).kept (K _), (q3.mono hx).kept (K _), (q4.mono hx).kept (K _), k.alloc _⟩
theorem want_old {er : Int} {c0 : Array Value} {B : Nat} (hN : N ≤ w0.heap.size) (hB : B = w0.heap.size) (hb : M B) (z3 : B < w3.heap.size) (q1 : RdItems (putB w3 B c0 62) M lv r.log) (q2 : RdBools (putB w3 B c0 62) M vv r.votes)
    (q3 : RdInts (putB w3 B c0 62) M mv r.mat) (q4 : RdLets (putB w3 B c0 62) M tv ls) (k : Kept NoM w0 w3) :
    Want w0 N r ls er (.pointer (some ⟨B, 0, none⟩)) (putB w3 B #[.int .i64 r.id, .int .i64 r.count, .int .i64 r.epoch, .int .i64 r.voted, .int .i64 r.role, lv, .int .i64 r.conf, vv, mv, tv, .int .i64 er] 62) := by
  subst hB
  have K : ∀ c, Kept M (putB w3 w0.heap.size c0 62) (putB w3 w0.heap.size c 62) := fun c => ((Kept.refl M w3).putM hb c _).offB hb
  have hx : ∀ i, i < (putB w3 w0.heap.size #[.int .i64 r.id, .int .i64 r.count, .int .i64 r.epoch, .int .i64 r.voted, .int .i64 r.role, lv, .int .i64 r.conf, vv, mv, tv, .int .i64 er] 62).heap.size → NoM i → M i := fun i _ h => h.elim
  exact ⟨_, lv, vv, mv, tv, rfl, by omega, putB_blk _ _ _ _ z3, (q1.kept (K _)).mono hx, (q2.kept (K _)).mono hx, (q3.kept (K _)).mono hx, (q4.kept (K _)).mono hx, k.putN (Nat.le_refl _) _ _⟩
end
end Go.Proofs.YtgohploghbimlaaDoor

/- The law's play: a replica's cells set; its end. -/
namespace Go.Proofs.YtgohploghbimlaaDoor
open Go.RowKit
set_option linter.unusedSectionVars false
variable [BB : Beside]
/-- some cells set, one behind the other -/
def setL (c : Array Value) (p : Nat) : List Value → Array Value
  | [] => c
  | v :: l => setL (c.setIfInBounds p v) (p + 1) l
theorem setL_size (l : List Value) : ∀ (c : Array Value) (p : Nat), (setL c p l).size = c.size := by
  induction l with
  | nil => intro c p; rfl
  | cons v l ih => intro c p; simp only [setL]; rw [ih]; simp
theorem setL_out (l : List Value) : ∀ (c : Array Value) (p k : Nat), (k < p ∨ p + l.length ≤ k) → (setL c p l)[k]? = c[k]? := by
  induction l with
  | nil => intro c p k h; rfl
  | cons v l ih =>
    intro c p k h
    simp only [setL, List.length_cons] at *
    rw [ih _ _ _ (by omega), Array.getElem?_setIfInBounds, if_neg (by omega)]
theorem setL_in (l : List Value) : ∀ (c : Array Value) (p : Nat), p + l.length ≤ c.size → ∀ j u, l[j]? = some u → (setL c p l)[p + j]? = some u := by
  induction l with
  | nil => intro c p h j u hu; simp at hu
  | cons v l ih =>
    intro c p h j u hu
    simp only [setL, List.length_cons] at *
    cases j with
    | zero =>
      simp only [List.getElem?_cons_zero, Option.some.injEq] at hu
      subst hu
      rw [setL_out _ _ _ _ (by omega), Nat.add_zero, Array.getElem?_setIfInBounds, if_pos rfl, if_pos (by omega)]
    | succ j =>
      rw [show p + (j + 1) = p + 1 + j by omega]
      exact ih _ _ (by simp; omega) j u (by simpa using hu)
theorem Rows.setR {w : World} {M : Nat → Prop} {cur : Array Value} {xs : List Rep} {j : Nat} {r : Rep} {lv vv mv : Value} (h : Rows 9 (ERep w M) cur xs) (hs : (j + 1) * 9 ≤ cur.size)
    (q1 : RdItems w M lv r.log) (q2 : RdBools w M vv r.votes) (q3 : RdInts w M mv r.mat) : Rows 9 (ERep w M) (setL cur (j * 9) (repC r lv vv mv).toList) (xs.set j r) := by
  rw [Nat.add_mul, Nat.one_mul] at hs
  refine h.set (repC r lv vv mv).toList ⟨lv, vv, mv, rfl, q1, q2, q3⟩ rfl (fun i u hu => setL_in _ _ _ (by exact hs) i u hu) (fun k hk => setL_out _ _ _ _ (by exact hk))

theorem play_end {w wB w6 w7 : World} {W g : Nat} {OL O1 : Option Nat} {reps' : List Rep} {lets' : List Let} {rv lv' : Value} {c : Array Value} (n1 : ¬ g = W) (n2 : OL ≠ some W) (n3 : OL ≠ some g) (zW : W < w.heap.size) (zg : g < w.heap.size)
    (hBs : ∀ k, BB.blk k → k < w.heap.size) (KB : Kept (MX W (some g) OL) w wB) (rB : OwnS wB (some g) 32 9 (ERep wB (RX W (some g) OL)) rv reps') (own1 : OwnS w6 O1 57 9 (ELet wB (RX W (some g) OL)) lv' lets')
    (k6 : Kept (fun k => some k = OL) wB w6) (N6 : NewO wB OL O1) (b7 : w6 = putB w7 W c 27) (z7 : W < w7.heap.size) :
    Played w W (some g) OL ⟨reps', lets'⟩ (.returned (.bool true)) (putB w7 W #[rv, lv'] 27) := by
  have zB := KB.size
  subst b7
  have K6F : Kept (fun k => k = W) (putB w7 W c 27) (putB w7 W #[rv, lv'] 27) := ((Kept.refl (fun k => k = W) w7).putM (b := W) rfl _ _).offB rfl
  have KBF : Kept (fun k => k = W ∨ some k = OL) wB (putB w7 W #[rv, lv'] 27) := (k6.mono fun _ _ h => .inr h).trans' K6F (fun _ _ h => .inl h)
  have KM : Kept (MX W (some g) OL) wB (putB w7 W #[rv, lv'] 27) := KBF.mono fun _ _ h => h.elim .inl (fun h => .inr (.inr h))
  have hs : ∀ i, i < wB.heap.size → RX W (some g) O1 i → RX W (some g) OL i := by
    rintro i hi ((h | h | h) | h)
    · exact .inl (.inl h)
    · exact .inl (.inr (.inl h))
    · rcases N6 with rfl | ⟨g', rfl, hg⟩
      · exact .inl (.inr (.inr h))
      · cases h; omega
    · exact .inr h
  have o1 : O1 ≠ some W := by
    rcases N6 with rfl | ⟨g', rfl, hg⟩
    · exact n2
    · intro h; cases h; omega
  have o2 : O1 ≠ some g := by
    rcases N6 with rfl | ⟨g', rfl, hg⟩
    · exact n3
    · intro h; cases h; omega
  refine ⟨rfl, some g, O1, ⟨rv, lv', putB_blk _ _ _ _ z7, ?_, ?_, ?_, o1, ?_, fun i hi => Nat.lt_of_lt_of_le (hBs i hi) (KB.trans KM).size⟩, KB.trans KM, NewO.refl _ _, N6.of_le zB⟩
  · refine rB.kept KBF ?_ (fun _ _ h => h.step (KM.mono fun _ _ h => .inl h) hs)
    rintro g' h (h2 | h2)
    · cases h; omega
    · rw [← h2] at n3; exact n3 h.symm
  · refine own1.kept K6F (fun g' h h2 => o1 (by rw [h, h2])) (fun _ _ h => h.step (KM.mono fun _ _ h => .inl h) hs)
  · intro h; cases h; exact n1 rfl
  · intro g' h; cases h; exact o2
theorem play_end0 {w wB : World} {W g : Nat} {OL : Option Nat} {reps' : List Rep} {lets' : List Let} {rv lv : Value} (n1 : ¬ g = W) (n2 : OL ≠ some W) (n3 : OL ≠ some g)
    (hBs : ∀ k, BB.blk k → k < w.heap.size) (KB : Kept (MX W (some g) OL) w wB) (hb : wB.heap[W]? = some (.cells #[rv, lv] 27 (0, 0))) (rB : OwnS wB (some g) 32 9 (ERep wB (RX W (some g) OL)) rv reps') (own1 : OwnS wB OL 57 9 (ELet wB (RX W (some g) OL)) lv lets') :
    Played w W (some g) OL ⟨reps', lets'⟩ (.returned (.bool true)) wB := by
  refine ⟨rfl, some g, OL, ⟨rv, lv, hb, rB, own1, ?_, n2, ?_, fun i hi => Nat.lt_of_lt_of_le (hBs i hi) KB.size⟩, KB, NewO.refl _ _, NewO.refl _ _⟩
  · intro h; cases h; exact n1 rfl
  · intro g' h; cases h; exact n3
end Go.Proofs.YtgohploghbimlaaDoor
