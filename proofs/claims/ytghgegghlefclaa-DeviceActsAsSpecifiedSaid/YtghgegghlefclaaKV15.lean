/- Texts that belong together: V15, V16. -/
import Derived.Test.YtghgegghlefclaaKW26
import Derived.Test.YtghgegghlefclaaKW28
import Derived.Test.YtghgegghlefclaaKW36
set_option linter.unusedVariables false
set_option linter.unusedSimpArgs false
set_option linter.unusedSectionVars false
/- What stands in memory while the specification receives or does a write: the boxes of the device, of what is returned, of the write and of the acknowledgement. -/
namespace Go.Proofs.Ytghgegghlefclaa
open Go.RowKit
set_option maxRecDepth 8000
structure BxSt (w : World) (M : Nat → Prop) (x : Wr) (D Z X A : Nat) (W : World) (d : Dev) (e : Int) (ta qa da la : Option Addr) (tc qc dc lc : Nat) : Prop where
  hd : W.heap[D]? = some (.cells (devC d ta tc qa qc da dc la lc) 27 (0, 0))
  hz : W.heap[Z]? = some (.cells devZC 27 (0, 0))
  hx : W.heap[X]? = some (.cells (wrC x) 41 (0, 0))
  ha : W.heap[A]? = some (.cells (akC x e) 60 (0, 0))
  rd : DevR W (BX M D Z X A) d ta tc qa qc da dc la lc
  kp : Kept NoM w W
  ls : w.heap.size ≤ D ∧ w.heap.size ≤ Z ∧ w.heap.size ≤ X ∧ w.heap.size ≤ A
  ne : D ≠ Z ∧ D ≠ X ∧ D ≠ A ∧ Z ≠ X ∧ Z ≠ A ∧ X ≠ A
section
variable {w : World} {M : Nat → Prop} {x : Wr} {D Z X A : Nat} {W W' : World} {d d' : Dev} {e : Int} {ta qa da la ta' qa' da' la' : Option Addr} {tc qc dc lc tc' qc' dc' lc' : Nat}
theorem BxSt.kept (h : BxSt w M x D Z X A W d e ta qa da la tc qc dc lc) (k : Kept NoM W W') : BxSt w M x D Z X A W' d e ta qa da la tc qc dc lc :=
  ⟨k.blk h.hd (fun x => x), k.blk h.hz (fun x => x), k.blk h.hx (fun x => x), k.blk h.ha (fun x => x), h.rd.kept k.of_no, h.kp.trans k, h.ls, h.ne⟩
theorem BxSt.box (h : BxSt w M x D Z X A W d e ta qa da la tc qc dc lc) (i : Nat) (v : Value) : Kept (BX M D Z X A) W (W.setCell ⟨D, i, none⟩ v) := (Kept.refl _ _).setCell (fun _ => .inr (.inl rfl)) v
/-- a field of the device is set -/
theorem BxSt.set (h : BxSt w M x D Z X A W d e ta qa da la tc qc dc lc) (i : Nat) (v : Value) (hc : (devC d ta tc qa qc da dc la lc).setIfInBounds i v = devC d' ta' tc' qa' qc' da' dc' la' lc') (hr : DevR W (BX M D Z X A) d' ta' tc' qa' qc' da' dc' la' lc') :
    BxSt w M x D Z X A (W.setCell ⟨D, i, none⟩ v) d' e ta' qa' da' la' tc' qc' dc' lc' := by
  have kb := h.box i v
  have hl := h.ls
  have hn := h.ne
  exact ⟨(blk_set h.hd _).trans (by rw [hc]), blk_set_ne h.hz (by omega) _, blk_set_ne h.hx (by omega) _, blk_set_ne h.ha (by omega) _, hr.kept kb, h.kp.setCell (fun hh => absurd hh (by show ¬ D < _; omega)) _, h.ls, h.ne⟩
theorem BxSt.setE (h : BxSt w M x D Z X A W d e ta qa da la tc qc dc lc) (f : Int) :
    BxSt w M x D Z X A (W.setCell ⟨A, 2, none⟩ (.int .i64 f)) d f ta qa da la tc qc dc lc := by
  have kb : Kept (BX M D Z X A) W (W.setCell ⟨A, 2, none⟩ (.int .i64 f)) := (Kept.refl _ _).setCell (fun _ => .inr (.inr (.inr (.inr rfl)))) _
  have hl := h.ls
  have hn := h.ne
  exact ⟨blk_set_ne h.hd (by omega) _, blk_set_ne h.hz (by omega) _, blk_set_ne h.hx (by omega) _, (blk_set h.ha _).trans (by simp [akC]), h.rd.kept kb, h.kp.setCell (fun hh => absurd hh (by show ¬ A < _; omega)) _, h.ls, h.ne⟩
theorem BxSt.bxlt (h : BxSt w M x D Z X A W d e ta qa da la tc qc dc lc) (hM : ∀ i, M i → i < w.heap.size) (i : Nat) (q : BX M D Z X A i) : i < W.heap.size := by
  have := h.kp.size
  rcases q with q | q | q | q | q
  · have := hM i q; omega
  · exact q ▸ lt_of_block h.hd
  · exact q ▸ lt_of_block h.hz
  · exact q ▸ lt_of_block h.hx
  · exact q ▸ lt_of_block h.ha
/-- what was made later is read -/
theorem BxSt.rdn {α : Type} {ee : TypeId} {sz : Nat} {E : List Value → α → Prop} {xs : List α} {v : Value} {O : Option Nat} (h : BxSt w M x D Z X A W d e ta qa da la tc qc dc lc) (hM : ∀ i, M i → i < w.heap.size) (ho : OwnS W' O ee sz E v xs) (hn : ∀ g, O = some g → W.heap.size ≤ g) : RdS W' (BX M D Z X A) sz E v xs :=
  ho.rd (fun g hg q => by have := h.bxlt hM g q; have := hn g hg; omega)
/-- what is returned -/
theorem BxSt.dev (h : BxSt w M x D Z X A W d e ta qa da la tc qc dc lc) (k : Kept (fun i => i = Z) W W') : DevV W' M (.agg (devC d ta tc qa qc da dc la lc)) d ∧ Kept NoM w W' := by
  have := h.ls
  refine ⟨⟨_, _, _, _, _, _, _, _, rfl, (h.rd.kept (k.mono (fun i _ e => .inr (.inr (.inl e))))).mono (fun i _ q => .inl q)⟩, h.kp.trans' k (fun i hi e => by omega)⟩
/-- the device of a newer epoch -/
theorem BxSt.fresh (h : BxSt w M x D Z X A W d e ta qa da la tc qc dc lc) (n : Int) :
    BxSt w M x D Z X A ((((W.setCell ⟨D, 1, none⟩ (.int .i64 n)).setCell ⟨D, 3, none⟩ (.slice none 0 0)).setCell ⟨D, 4, none⟩ (.slice none 0 0)).setCell ⟨D, 5, none⟩ (.slice none 0 0)) { d with ep := n, queue := [], done := [], lost := [] } e ta none none none tc 0 0 0 := by
  have h1 : BxSt w M x D Z X A _ { d with ep := n } e ta qa da la tc qc dc lc := h.set 1 (.int .i64 n) (by simp [devC]) ⟨h.rd.rt, h.rd.rq, h.rd.rd, h.rd.rl⟩
  have h2 : BxSt w M x D Z X A _ { d with ep := n, queue := [] } e ta none da la tc 0 dc lc := h1.set 3 (.slice none 0 0) (by simp [devC]) ⟨h1.rd.rt, rd_nil0, h1.rd.rd, h1.rd.rl⟩
  have h3 : BxSt w M x D Z X A _ { d with ep := n, queue := [], done := [] } e ta none none la tc 0 0 lc := h2.set 4 (.slice none 0 0) (by simp [devC]) ⟨h2.rd.rt, h2.rd.rq, rd_nil0, h2.rd.rl⟩
  exact h3.set 5 (.slice none 0 0) (by simp [devC]) ⟨h3.rd.rt, h3.rd.rq, h3.rd.rd, rd_nil0⟩
/-- the start -/
theorem BxSt.start (hd : W.heap[D]? = some (.cells (devC d ta tc qa qc da dc la lc) 27 (0, 0))) (hz : W.heap[Z]? = some (.cells devZC 27 (0, 0))) (hx : W.heap[X]? = some (.cells (wrC x) 41 (0, 0)))
    (hrd : DevR W (BX M D Z X A) d ta tc qa qc da dc la lc) (kp : Kept NoM w W) (ls : w.heap.size ≤ D ∧ w.heap.size ≤ Z ∧ w.heap.size ≤ X ∧ w.heap.size ≤ A) (ne : D ≠ Z ∧ D ≠ X ∧ D ≠ A ∧ Z ≠ X ∧ Z ≠ A ∧ X ≠ A) (hA : A = W.heap.size) :
    BxSt w M x D Z X A (W.alloc (.cells #[.int .i64 x.ep, .int .i64 x.seq, .int .i64 0] 60)) d 0 ta qa da la tc qc dc lc := by
  subst hA
  exact ⟨blk_old hd _, blk_old hz _, blk_old hx _, blk_new _ _, hrd.kept ((Kept.refl _ _).alloc _), kp.alloc _, ls, ne⟩
end
end Go.Proofs.Ytghgegghlefclaa

/- What stands in memory while the specification does a write, ahead of the acknowledgement; the fold that inserts a number; a slice cut at its front. -/
namespace Go.Proofs.Ytghgegghlefclaa
open Go.RowKit
set_option maxRecDepth 8000
structure BxQ (w : World) (M : Nat → Prop) (x : Wr) (D Z X : Nat) (W : World) (d : Dev) (ta qa da la : Option Addr) (tc qc dc lc : Nat) : Prop where
  hd : W.heap[D]? = some (.cells (devC d ta tc qa qc da dc la lc) 27 (0, 0))
  hz : W.heap[Z]? = some (.cells devZC 27 (0, 0))
  hx : W.heap[X]? = some (.cells (wrC x) 41 (0, 0))
  rd : DevR W (BX M D Z X X) d ta tc qa qc da dc la lc
  kp : Kept NoM w W
  ls : w.heap.size ≤ D ∧ w.heap.size ≤ Z ∧ w.heap.size ≤ X
  ne : D ≠ Z ∧ D ≠ X ∧ Z ≠ X
section
variable {w : World} {M : Nat → Prop} {x : Wr} {D Z X A : Nat} {W W' : World} {d d' : Dev} {e : Int} {ta qa da la ta' qa' da' la' : Option Addr} {tc qc dc lc tc' qc' dc' lc' : Nat}
theorem BxQ.kept (h : BxQ w M x D Z X W d ta qa da la tc qc dc lc) (k : Kept NoM W W') : BxQ w M x D Z X W' d ta qa da la tc qc dc lc :=
  ⟨k.blk h.hd (fun x => x), k.blk h.hz (fun x => x), k.blk h.hx (fun x => x), h.rd.kept k.of_no, h.kp.trans k, h.ls, h.ne⟩
/-- a field of the device is set -/
theorem BxQ.set (h : BxQ w M x D Z X W d ta qa da la tc qc dc lc) (i : Nat) (v : Value) (hc : (devC d ta tc qa qc da dc la lc).setIfInBounds i v = devC d' ta' tc' qa' qc' da' dc' la' lc') (hr : DevR W (BX M D Z X X) d' ta' tc' qa' qc' da' dc' la' lc') :
    BxQ w M x D Z X (W.setCell ⟨D, i, none⟩ v) d' ta' qa' da' la' tc' qc' dc' lc' := by
  have kb : Kept (BX M D Z X X) W (W.setCell ⟨D, i, none⟩ v) := (Kept.refl _ _).setCell (fun _ => .inr (.inl rfl)) v
  have hl := h.ls
  have hn := h.ne
  exact ⟨(blk_set h.hd _).trans (by rw [hc]), blk_set_ne h.hz (by omega) _, blk_set_ne h.hx (by omega) _, hr.kept kb, h.kp.setCell (fun hh => absurd hh (by show ¬ D < _; omega)) _, h.ls, h.ne⟩
theorem BxQ.bxlt (h : BxQ w M x D Z X W d ta qa da la tc qc dc lc) (hM : ∀ i, M i → i < w.heap.size) (i : Nat) (q : BX M D Z X X i) : i < W.heap.size := by
  have := h.kp.size
  rcases q with q | q | q | q | q
  · have := hM i q; omega
  · exact q ▸ lt_of_block h.hd
  · exact q ▸ lt_of_block h.hz
  · exact q ▸ lt_of_block h.hx
  · exact q ▸ lt_of_block h.hx
theorem BxQ.rdn {α : Type} {ee : TypeId} {sz : Nat} {E : List Value → α → Prop} {xs : List α} {v : Value} {O : Option Nat} (h : BxQ w M x D Z X W d ta qa da la tc qc dc lc) (hM : ∀ i, M i → i < w.heap.size) (ho : OwnS W' O ee sz E v xs) (hn : ∀ g, O = some g → W.heap.size ≤ g) : RdS W' (BX M D Z X X) sz E v xs :=
  ho.rd (fun g hg q => by have := h.bxlt hM g q; have := hn g hg; omega)
/-- the acknowledgement is made -/
theorem BxQ.ack (h : BxQ w M x D Z X W d ta qa da la tc qc dc lc) (hA : A = W.heap.size) :
    BxSt w M x D Z X A (W.alloc (.cells #[.int .i64 x.ep, .int .i64 x.seq, .int .i64 0] 60)) d 0 ta qa da la tc qc dc lc := by
  have hl := h.ls
  have hn := h.ne
  have s1 := lt_of_block h.hd
  have s2 := lt_of_block h.hz
  have s3 := lt_of_block h.hx
  have s4 := h.kp.size
  refine BxSt.start h.hd h.hz h.hx (h.rd.mono (fun i hi q => ?_)) h.kp ⟨hl.1, hl.2.1, hl.2.2, by omega⟩ ⟨hn.1, hn.2.1, by omega, hn.2.2, by omega, by omega⟩ hA
  rcases q with q | q | q | q | q
  · exact .inl q
  · exact .inr (.inl q)
  · exact .inr (.inr (.inl q))
  · exact .inr (.inr (.inr (.inl q)))
  · omega
end
/-- a number of a list that is read -/
theorem intAt {W : World} {M : Nat → Prop} {b off n c k : Nat} {xs : List Int} {y : Int} (h : RdS W M 1 EInt (.slice (some ⟨b, off, none⟩) n c) xs) (hx : xs[k]? = some y) : W.cell? ⟨b, off + k, none⟩ = some (.int .i64 y) := by
  obtain ⟨b', off', e1, _, cs, rfl, _, hc⟩ := h.at hx
  simp only [Option.some.injEq, Addr.mk.injEq, and_true] at e1
  obtain ⟨rfl, rfl⟩ := e1
  have x0 := hc 0 _ rfl
  simpa only [Nat.mul_one, Nat.add_zero] using x0
theorem newO_le {w : World} {O : Option Nat} (h : NewO w none O) (g : Nat) (hg : O = some g) : w.heap.size ≤ g := by
  rcases h with e | ⟨g', e, hg'⟩
  · rw [e] at hg; cases hg
  · rw [e] at hg; cases hg; exact hg'
/-! ### A number is put in its place -/
def stepN (n : Int) (s : List Int × Bool) (x : Int) : List Int × Bool := if n < x ∧ s.2 = false then (s.1 ++ [n] ++ [x], true) else (s.1 ++ [x], s.2)
def endN (n : Int) (s : List Int × Bool) : List Int := if s.2 = true then s.1 else s.1 ++ [n]
theorem stepN_in {n : Int} (t acc : List Int) : t.foldl (stepN n) (acc, true) = (acc ++ t, true) := by
  induction t generalizing acc with
  | nil => simp
  | cons x t ih =>
    rw [List.foldl_cons, show stepN n (acc, true) x = (acc ++ [x], true) by unfold stepN; simp, ih]
    simp
theorem stepN_ins {n : Int} (t acc : List Int) : endN n (t.foldl (stepN n) (acc, false)) = acc ++ insI n t := by
  induction t generalizing acc with
  | nil => rfl
  | cons x t ih =>
    rw [List.foldl_cons]
    unfold insI
    by_cases h : n < x
    · rw [show stepN n (acc, false) x = (acc ++ [n] ++ [x], true) by unfold stepN; simp [h], stepN_in, if_pos h]
      simp [endN]
    · rw [show stepN n (acc, false) x = (acc ++ [x], false) by unfold stepN; simp [h], ih, if_neg h]
      simp
theorem foldN_succ {n : Int} {t : List Int} {k : Nat} {x : Int} (hx : t[k]? = some x) (s : List Int × Bool) : (t.take (k + 1)).foldl (stepN n) s = stepN n ((t.take k).foldl (stepN n) s) x := by
  rw [take_snoc hx, List.foldl_append]; rfl
theorem stepN_len (n : Int) (s : List Int × Bool) (x : Int) : (stepN n s x).1.length ≤ s.1.length + 2 := by
  unfold stepN
  split <;> simp
theorem foldN_len (n : Int) (t : List Int) (s : List Int × Bool) : (t.foldl (stepN n) s).1.length ≤ s.1.length + 2 * t.length := by
  induction t generalizing s with
  | nil => simp
  | cons x t ih =>
    rw [List.foldl_cons]
    have := ih (stepN n s x)
    have := stepN_len n s x
    simp only [List.length_cons]
    omega
/-! ### Cutting a slice at its front -/
theorem run_slice_from {P : Program} (T e : TypeId) (i : TypeInfo) (hT : P.underlying T = some (.slice e)) (hin : P.info? e = some i) (a : Option Addr) (n cap lo : Nat) (h1 : lo ≤ n) (h2 : n ≤ cap) (wx : World) :
    (Instr.slice T (.slice a n cap) (some (.int .i64 lo)) none none).run P wx = .ok (.slice (if cap = lo then a else a.map (·.add (lo * i.size))) (n - lo) (cap - lo)) wx := by
  have g3 : (0 : Int) ≤ lo := by omega
  have g4 : (lo : Int) ≤ n := by omega
  simp [Instr.slice, Instr.sliceBounds, Instr.sliceBound, asIntOf, run_underlying hT, sizeOf, typeInfo, hin, h1, h2]
theorem RdS.sliceFrom {α : Type} {w : World} {M : Nat → Prop} {sz : Nat} {E : List Value → α → Prop} {xs : List α} {P : Program} (T e : TypeId) (i : TypeInfo) (hT : P.underlying T = some (.slice e)) (hin : P.info? e = some i) (hsz : i.size = sz) {a : Option Addr} {n cap : Nat} (h : RdS w M sz E (.slice a n cap) xs) (lo : Nat) (h1 : lo ≤ xs.length) :
    ∃ sa sc, (∀ wx, (Instr.slice T (.slice a n cap) (some (.int .i64 lo)) none none).run P wx = .ok (.slice sa (xs.length - lo) sc) wx) ∧ RdS w M sz E (.slice sa (xs.length - lo) sc) (xs.drop lo) := by
  obtain ⟨sa, sc, q1, q2⟩ := RdS.slice (P := P) T e i hT hin hsz h lo xs.length h1 (Nat.le_refl _) (some (.int .i64 lo)) (.inl rfl)
  obtain ⟨rfl, hc, _⟩ := h.addr
  rw [List.take_length] at q2
  refine ⟨sa, sc, fun wx => ?_, q2⟩
  rw [run_slice_from T e i hT hin a xs.length cap lo h1 hc wx]
  have := q1 wx
  rwa [run_slice_lh T e i hT hin a xs.length cap lo xs.length h1 hc _ (.inl rfl) wx] at this
theorem cut_len {α : Type} {q : List α} {k : Nat} (h : k < q.length) : k + (q.length - (k + 1)) = (q.eraseIdx k).length := by
  rw [List.length_eraseIdx, if_pos h]; omega
end Go.Proofs.Ytghgegghlefclaa
