/- Texts that belong together: V3, V7, V8, V9, V12, V13, V10. -/
import Derived.Test.YtghgegghlefclaaKAgg
import Derived.StillTailTactics
import Derived.Deep.MidRow
import Derived.Test.YtghgegghlefclaaKRP
import Derived.Test.YtghgegghlefclaaKV0
set_option linter.unusedVariables false
set_option linter.unusedSimpArgs false
set_option linter.unusedSectionVars false
/- Values of many cells: loads, stores, new variables, for writes, rules, acks and devices. -/
namespace Go.Proofs.Ytghgegghlefclaa
open Go.RowKit
/-- a type of many cells -/
def BigTy (ty : TypeId) (n : Nat) : Prop := (∃ d, Try.prog.underlying ty = some d ∧ d.isRow = true) ∧ (Try.prog.info? ty).map (·.size) = some n
theorem bigWr : BigTy 41 26 := ⟨⟨_, Try.underlying41, rfl⟩, by kernel_rfl⟩
theorem bigRu : BigTy 39 23 := ⟨⟨_, Try.underlying39, rfl⟩, by kernel_rfl⟩
theorem bigAk : BigTy 60 3 := ⟨⟨_, Try.underlying60, rfl⟩, by kernel_rfl⟩
theorem bigDev : BigTy 27 7 := ⟨⟨_, Try.underlying27, rfl⟩, by kernel_rfl⟩
section
variable {w : World} {ops : Array Oper} {rest : List Oper} {o : Oper} {a : Act} {Q : Exit → Act → World → Prop} {ty : TypeId} {n : Nat}
theorem range_blk {b : Nat} {cs : Array Value} {t : TypeId} {f : Nat × Nat} (hc : w.heap[b]? = some (.cells cs t f)) : w.rangeAt b 0 cs.toList := fun j v hv => by
  have : cs[j]? = some v := by simpa using hv
  simp [World.cell?, hc, this]
theorem rangeAt_kept {M : Nat → Prop} {w' : World} {b off : Nat} {cs : List Value} (h : w.rangeAt b off cs) (k : Kept M w w') (hM : ¬ M b) : w'.rangeAt b off cs := fun j v hv => k.cell (h j v hv) hM
theorem wpList_load_big (B : BigTy ty n) (hgd : o.guard = none) (x : Operand) (ho : o.op = .load ty x) (b off : Nat) (cs : Array Value) (hx : a.eval x = .pointer (some ⟨b, off, none⟩)) (hc : w.rangeAt b off cs.toList) (hl : cs.size = n)
    (h : wpList Try.prog ops Q rest (a.put o.dst (.agg cs)) w) : wpList Try.prog ops Q (o :: rest) a w := by
  obtain ⟨⟨d, hu, hd⟩, hi⟩ := B
  exact wpList_load_mid hgd ty x ho b off hx cs.toList d hc hu hd (by rw [hi]; simp [hl]) (by simpa using h)
theorem wpList_load_bigG (B : BigTy ty n) (hw : Region.wanted o (yielded ops a.tmps) = true) (x : Operand) (ho : o.op = .load ty x) (b off : Nat) (cs : Array Value) (hx : a.eval x = .pointer (some ⟨b, off, none⟩)) (hc : w.rangeAt b off cs.toList) (hl : cs.size = n)
    (h : wpList Try.prog ops Q rest (a.put o.dst (.agg cs)) w) : wpList Try.prog ops Q (o :: rest) a w := by
  obtain ⟨⟨d, hu, hd⟩, hi⟩ := B
  refine wpList_step fun K hK => ?_
  rw [if_pos hw]
  exact wp_load_mid ty x ho b off hx cs.toList d hc hu hd (by rw [hi]; simp [hl]) (hK _ _ (by simpa using h))
theorem wpStill_load_big {W : World} {Q : Act → Prop} (B : BigTy ty n) (hgd : o.guard = none) (x : Operand) (ho : o.op = .load ty x) (b off : Nat) (cs : Array Value) (hx : a.eval x = .pointer (some ⟨b, off, none⟩)) (hc : W.rangeAt b off cs.toList) (hl : cs.size = n)
    (h : wpStill Try.prog ops W Q rest (a.put o.dst (.agg cs))) : wpStill Try.prog ops W Q (o :: rest) a := by
  obtain ⟨⟨d, hu, hd⟩, hi⟩ := B
  refine wpStill_step fun K hK => ?_
  have hw : Region.wanted o (yielded ops a.tmps) = true := by simp [Region.wanted, hgd]
  rw [if_pos hw]
  have hl := run_loadVar_mid (P := Try.prog) W b off ty cs.toList d hc hu hd (by rw [hi]; simp [hl])
  unfold Oper.still execOp
  simp only [ho, hx, Instr.loadAt, Instr.sureAddr, Sem.run_bind, Sem.run_pure, Result.andThen_ok, hl]
  exact ⟨rfl, hK _ (by simpa using h)⟩
/-- a value into a variable that was just made -/
theorem wpList_store_bign (B : BigTy ty n) (hgd : o.guard = none) (x y : Operand) (ho : o.op = .store ty x y) {t : TypeId} {z cs : Array Value} (m : Nat) (hm : m = w.heap.size) (hx : a.eval x = .pointer (some ⟨m, 0, none⟩)) (hy : a.eval y = .agg cs) (hz : z.size = n) (hl : cs.size = n) (h1 : ∀ u ∈ cs.toList, u.oneCell' = true)
    (h : wpList Try.prog ops Q rest (a.put o.dst undef) (w.alloc (.cells cs t))) : wpList Try.prog ops Q (o :: rest) a (w.alloc (.cells z t)) := by
  subst hm
  exact wpList_store_new hgd ty x y ho _ _ hx hy (by omega) (by rw [B.2, hl]) h1 t h
/-- a value into a variable that is known -/
theorem wpList_store_bigb (B : BigTy ty n) (hgd : o.guard = none) (x y : Operand) (ho : o.op = .store ty x y) {t : TypeId} {z cs : Array Value} (b : Nat) (hx : a.eval x = .pointer (some ⟨b, 0, none⟩)) (hy : a.eval y = .agg cs) (hb : w.heap[b]? = some (.cells z t (0, 0))) (hz : z.size = n) (hl : cs.size = n) (h1 : ∀ u ∈ cs.toList, u.oneCell' = true)
    (h : wpList Try.prog ops Q rest (a.put o.dst undef) (putB w b cs t)) : wpList Try.prog ops Q (o :: rest) a w := by
  refine wpList_store_blk hgd ty x y ho b 0 cs z t hx hy hb (by omega) (by rw [B.2, hl]) h1 ?_
  rw [splice_full (by simp [hz, hl])]
  simpa using h
end
theorem wr1 (x : Wr) : ∀ u ∈ (wrC x).toList, u.oneCell' = true := eWr_one _ x rfl
theorem ru1 (x : Ru) : ∀ u ∈ (ruC x).toList, u.oneCell' = true := eRu_one _ x rfl
theorem dev1 (d : Dev) (ta tc qa qc da dc la lc) : ∀ u ∈ (devC d ta tc qa qc da dc la lc).toList, u.oneCell' = true := by
  intro u hu
  simp [devC] at hu
  rcases hu with rfl | rfl | rfl | rfl | rfl | rfl | rfl <;> rfl
section
variable {w : World} {M : Nat → Prop} {a : Option Addr} {n cap : Nat}
theorem wr_at {xs : List Wr} (h : RdS w M 26 EWr (.slice a n cap) xs) {k : Nat} {x : Wr} (hx : xs[k]? = some x) : ∃ b off, a = some ⟨b, off, none⟩ ∧ ¬ M b ∧ w.rangeAt b (off + k * 26) (wrC x).toList := by
  obtain ⟨b, off, cs, e1, h1, rfl, _, h2⟩ := h.range hx
  exact ⟨b, off, e1, h1, h2⟩
theorem ru_at {xs : List Ru} (h : RdS w M 23 ERu (.slice a n cap) xs) {k : Nat} {x : Ru} (hx : xs[k]? = some x) : ∃ b off, a = some ⟨b, off, none⟩ ∧ ¬ M b ∧ w.rangeAt b (off + k * 23) (ruC x).toList := by
  obtain ⟨b, off, cs, e1, h1, rfl, _, h2⟩ := h.range hx
  exact ⟨b, off, e1, h1, h2⟩
theorem range_cell {b o : Nat} {cs : Array Value} (h : w.rangeAt b o cs.toList) (j : Nat) (v : Value) (hj : cs[j]? = some v) : w.cell? ⟨b, o + j, none⟩ = some v := h j v (by simpa using hj)
end
end Go.Proofs.Ytghgegghlefclaa

/- The cells of a device. -/
namespace Go.Proofs.Ytghgegghlefclaa
open Go.RowKit
section
variable {d : Dev} {ta qa da la : Option Addr} {tc qc dc lc : Nat}
@[go_sem] theorem dv0 : (devC d ta tc qa qc da dc la lc)[0]? = some (.int .i64 d.room) := rfl
@[go_sem] theorem dv1 : (devC d ta tc qa qc da dc la lc)[1]? = some (.int .i64 d.ep) := rfl
@[go_sem] theorem dv2 : (devC d ta tc qa qc da dc la lc)[2]? = some (.slice ta d.table.length tc) := rfl
@[go_sem] theorem dv3 : (devC d ta tc qa qc da dc la lc)[3]? = some (.slice qa d.queue.length qc) := rfl
@[go_sem] theorem dv4 : (devC d ta tc qa qc da dc la lc)[4]? = some (.slice da d.done.length dc) := rfl
@[go_sem] theorem dv5 : (devC d ta tc qa qc da dc la lc)[5]? = some (.slice la d.lost.length lc) := rfl
@[go_sem] theorem dv6 : (devC d ta tc qa qc da dc la lc)[6]? = some (.bool d.early) := rfl
@[go_sem, simp] theorem dv_size : (devC d ta tc qa qc da dc la lc).size = 7 := rfl
end
end Go.Proofs.Ytghgegghlefclaa

/- Operations on values of many cells, known by what they give. -/
namespace Go.Proofs.Ytghgegghlefclaa
open Go.RowKit
section
variable {w : World} {o : Oper} {a : Act} {R : Value → World → Prop} {ty : TypeId} {n : Nat}
theorem gives_load_big (B : BigTy ty n) (x : Operand) (ho : o.op = .load ty x) (b off : Nat) (cs : Array Value) (hx : a.eval x = .pointer (some ⟨b, off, none⟩)) (hc : w.rangeAt b off cs.toList) (hl : cs.size = n) (h : R (.agg cs) w) : gives Try.prog o a w R := by
  obtain ⟨⟨d, hu, hd⟩, hi⟩ := B
  have hl := run_loadVar_mid (P := Try.prog) w b off ty cs.toList d hc hu hd (by rw [hi]; simp [hl])
  unfold gives execOp
  simp only [ho, hx, Instr.loadAt, Instr.sureAddr, Sem.run_bind, Sem.run_pure, Result.andThen_ok, hl]
  exact h
theorem gives_store_bigb (B : BigTy ty n) (x y : Operand) (ho : o.op = .store ty x y) {t : TypeId} {z cs : Array Value} (b : Nat) (hx : a.eval x = .pointer (some ⟨b, 0, none⟩)) (hy : a.eval y = .agg cs) (hb : w.heap[b]? = some (.cells z t (0, 0))) (hz : z.size = n) (hl : cs.size = n) (h1 : ∀ u ∈ cs.toList, u.oneCell' = true) (h : R undef (putB w b cs t)) : gives Try.prog o a w R := by
  have hrun := run_storeVar_blk (P := Try.prog) hb (o := 0) (cells := cs) (ty := ty) (by omega) (by rw [B.2, hl]) h1
  unfold gives execOp
  simp only [ho, hx, hy, Instr.storeAt, Instr.sureAddr, Sem.run_bind, Sem.run_pure, Result.andThen_ok, hrun]
  have e : (splice z.toList 0 cs.toList).toArray = cs := by rw [splice_full (by simp [hz, hl])]
  rw [e]
  exact h
end
end Go.Proofs.Ytghgegghlefclaa

/- Where a result of many cells is laid down; the last region of Receive and Do. -/
namespace Go.Proofs.Ytghgegghlefclaa
open Go.RowKit
def dev0 : Dev := ⟨0, 0, [], [], [], [], false⟩
def devZC : Array Value := devC dev0 none 0 none 0 none 0 none 0
theorem devZ (w : World) : (zeroValue 27).run Try.prog w = .ok (.agg devZC) w := by kernel_rfl
/-- all else stands, and block B is a device's variable -/
def CF (W : World) (B : Nat) (wx : World) : Prop := Kept (fun i => i = B) W wx ∧ ∃ z : Array Value, z.size = 7 ∧ wx.heap[B]? = some (.cells z 27 (0, 0))
theorem CF.kept {W wx wy : World} {B : Nat} (h : CF W B wx) (k : Kept NoM wx wy) : CF W B wy := by
  obtain ⟨h1, z, h2, h3⟩ := h
  exact ⟨h1.trans k.of_no, z, h2, k.blk h3 (fun x => x)⟩
theorem CF.drew {W wx : World} {B : Nat} (h : CF W B wx) : CF W B wx.drew := h.kept (Kept.refl _ _).drew
theorem CF.alloc {W wx : World} {B : Nat} (h : CF W B wx) (o : Obj) : CF W B (wx.alloc o) := h.kept ((Kept.refl _ _).alloc o)
theorem CF.put {W wx : World} {B : Nat} (h : CF W B wx) (cs : Array Value) (hs : cs.size = 7) : CF W B (putB wx B cs 27) := by
  obtain ⟨h1, z, h2, h3⟩ := h
  exact ⟨h1.putM rfl _ _, cs, hs, putB_blk _ _ _ _ (lt_of_block h3)⟩
theorem CF.refl {W : World} {B : Nat} {z : Array Value} (hs : z.size = 7) (hb : W.heap[B]? = some (.cells z 27 (0, 0))) : CF W B W := ⟨Kept.refl _ _, z, hs, hb⟩
theorem CF.blk {W wx : World} {B b : Nat} {o : Obj} (h : CF W B wx) (hb : W.heap[b]? = some o) (hne : b ≠ B) : wx.heap[b]? = some o := h.1.blk hb hne
theorem CF.no {w W wx : World} {B : Nat} (h : CF W B wx) (k : Kept NoM w W) (hs : w.heap.size ≤ B) : Kept NoM w wx := k.trans' h.1 (fun i hi e => by omega)
/-- a device's variable is read whole -/
theorem loadDev {w : World} {b : Nat} {cs : Array Value} (hb : w.heap[b]? = some (.cells cs 27 (0, 0))) (hl : cs.size = 7) : (loadVar 27 ⟨b, 0, none⟩).run Try.prog w = .ok (.agg cs) w := by
  obtain ⟨⟨d, hu, hd⟩, hi⟩ := bigDev
  have h := run_loadVar_mid (P := Try.prog) w b 0 27 cs.toList d (range_blk hb) hu hd (by rw [hi]; simp [hl])
  simpa using h
theorem acks_one {w0 w : World} {M : Nat → Prop} {b : Nat} {a : Ak} (hb : w.heap[b]? = some (.cells #[.int .i64 a.ep, .int .i64 a.seq, .int .i64 a.e] 60 (0, 0))) (hM : ∀ i, M i → i < w0.heap.size) (hs : w0.heap.size ≤ b) : RdS w M 3 EAk (.slice (some ⟨b, 0, none⟩) 1 1) [a] :=
  rd_one hb (fun h => by have := hM b h; omega) rfl rfl
theorem acks_nil {w : World} {M : Nat → Prop} : RdS w M 3 EAk (.slice none 0 0) [] := ⟨none, 0, rfl, Nat.le_refl _, by unfold maxLen; omega, .inl ⟨rfl, rfl⟩⟩
end Go.Proofs.Ytghgegghlefclaa

/- A device's readings lie in no box that is still zero. -/
namespace Go.Proofs.Ytghgegghlefclaa
open Go.RowKit
set_option maxRecDepth 8000
theorem RdS.step0 {α : Type} {w : World} {M : Nat → Prop} {sz b : Nat} {E : List Value → α → Prop} {v : Value} {xs : List α} {cz cs : Array Value} {t : TypeId} (h : RdS w M sz E v xs) (hb : w.heap[b]? = some (.cells cz t (0, 0)))
    (hne : ∀ (i : Nat) x c off, xs[i]? = some x → E c x → c.length = sz → ∃ (j : Nat) (u : Value), c[j]? = some u ∧ cz[off + j]? ≠ some u) : RdS (putB w b cs t) M sz E v xs := by
  obtain ⟨a, cap, h1, h2, h3, h4⟩ := h
  refine ⟨a, cap, h1, h2, h3, ?_⟩
  rcases h4 with h4 | ⟨g, off, h5, h6⟩
  · exact .inl h4
  · refine .inr ⟨g, off, h5, fun i x hx => ?_⟩
    obtain ⟨g1, c, g2, g3, g4⟩ := h6 i x hx
    refine ⟨g1, c, g2, g3, fun j u hj => ?_⟩
    have hgb : g ≠ b := fun e => by
      subst e
      obtain ⟨j', u', q1, q2⟩ := hne i x c (off + i * sz) hx g2 g3
      have := g4 j' u' q1
      simp only [World.cell?, hb] at this
      exact q2 (by simpa using this)
    exact ((Kept.refl (fun i => i = b) w).putM rfl cs t).cell (g4 j u hj) hgb
theorem devZC_at (i : Nat) (u : Value) (h : devZC[i]? = some u) : i < 7 ∧ ∀ n : Int, u = .int .i64 n → n = 0 ∧ i < 2 := by
  have hi : i < 7 := by
    have := (Array.getElem?_eq_some_iff.1 h).1
    exact this
  refine ⟨hi, fun n e => ?_⟩
  subst e
  have : i = 0 ∨ i = 1 ∨ i = 2 ∨ i = 3 ∨ i = 4 ∨ i = 5 ∨ i = 6 := by omega
  rcases this with rfl | rfl | rfl | rfl | rfl | rfl | rfl <;> simp [devZC, devC, dev0] at h <;> omega
/-- the numbers of a device are not zero -/
def NZ (d : Dev) : Prop := (∀ n ∈ d.done, n ≠ 0) ∧ ∀ n ∈ d.lost, n ≠ 0
theorem RD.nz {d : Dev} (h : RD d) : NZ d := ⟨fun n hn => by have := okN_iff.1 (h.done.2 n hn); omega, fun n hn => by have := okN_iff.1 (h.lost.2 n hn); omega⟩
theorem ints0 {l : List Int} (h : ∀ n ∈ l, n ≠ 0) (i : Nat) (x : Int) (c : List Value) (off : Nat) (hx : l[i]? = some x) (hE : EInt c x) : ∃ (j : Nat) (u : Value), c[j]? = some u ∧ devZC[off + j]? ≠ some u := by
  refine ⟨0, .int .i64 x, by rw [hE]; rfl, fun e => ?_⟩
  exact h x (List.mem_of_getElem? hx) ((devZC_at _ _ e).2 x rfl).1
theorem DevR.putZ {w : World} {M : Nat → Prop} {d : Dev} {ta qa da la : Option Addr} {tc qc dc lc b : Nat} (h : DevR w M d ta tc qa qc da dc la lc) (hz : NZ d) (hb : w.heap[b]? = some (.cells devZC 27 (0, 0))) (cs : Array Value) : DevR (putB w b cs 27) M d ta tc qa qc da dc la lc := by
  refine ⟨h.rt.step0 hb (fun i x c off hx hE _ => ?_), h.rq.step0 hb (fun i x c off hx hE _ => ?_), h.rd.step0 hb (fun i x c off hx hE _ => ints0 hz.1 i x c off hx hE), h.rl.step0 hb (fun i x c off hx hE _ => ints0 hz.2 i x c off hx hE)⟩
  · have hl : c.length = 23 := by rw [hE]; rfl
    exact ⟨22, c[22], by simp, fun e => by have := (devZC_at _ _ e).1; omega⟩
  · have hl : c.length = 26 := by rw [hE]; rfl
    exact ⟨25, c[25], by simp, fun e => by have := (devZC_at _ _ e).1; omega⟩
theorem DevV.putZ {w : World} {M : Nat → Prop} {v : Value} {d : Dev} {b : Nat} (h : DevV w M v d) (hz : NZ d) (hb : w.heap[b]? = some (.cells devZC 27 (0, 0))) (cs : Array Value) : DevV (putB w b cs 27) M v d := by
  obtain ⟨ta, tc, qa, qc, da, dc, la, lc, rfl, r⟩ := h
  exact ⟨ta, tc, qa, qc, da, dc, la, lc, rfl, r.putZ hz hb cs⟩
theorem acks_putZ {w : World} {M : Nat → Prop} {v : Value} {A : List Ak} {b : Nat} (h : RdS w M 3 EAk v A) (hb : w.heap[b]? = some (.cells devZC 27 (0, 0))) (cs : Array Value) : RdS (putB w b cs 27) M 3 EAk v A :=
  h.step0 hb (fun i x c off hx hE _ => ⟨2, .int .i64 x.e, by rw [hE]; rfl, fun e => by have := ((devZC_at _ _ e).2 x.e rfl).2; omega⟩)
theorem DevR.step {w w' : World} {M M' : Nat → Prop} {d : Dev} {ta qa da la : Option Addr} {tc qc dc lc : Nat} (h : DevR w M d ta tc qa qc da dc la lc) (k : Kept M w w') (hm : ∀ i, i < w.heap.size → M' i → M i) : DevR w' M' d ta tc qa qc da dc la lc :=
  ⟨h.rt.step k hm (by omega) (fun _ _ x => x), h.rq.step k hm (by omega) (fun _ _ x => x), h.rd.step k hm (by omega) (fun _ _ x => x), h.rl.step k hm (by omega) (fun _ _ x => x)⟩
/-- what Receive and Do return -/
def ActPost (M : Nat → Prop) (w : World) (D : Dev) (A : List Ak) (e : Ending) (w' : World) : Prop := ∃ v av, e = .returned (.tuple #[v, av, .int .i64 0]) ∧ DevV w' M v D ∧ RdS w' M 3 EAk av A ∧ Kept NoM w w'
theorem stab_tup (M : Nat → Prop) (D : Dev) (A : List Ak) : ∀ (u : Value) w w', Kept NoM w w' → (∃ v av, u = .tuple #[v, av, .int .i64 0] ∧ DevV w M v D ∧ RdS w M 3 EAk av A) → ∃ v av, u = .tuple #[v, av, .int .i64 0] ∧ DevV w' M v D ∧ RdS w' M 3 EAk av A :=
  fun u w w' k ⟨v, av, h1, h2, h3⟩ => ⟨v, av, h1, h2.kept0 k, h3.kept k.of_no (fun _ _ x => x)⟩
end Go.Proofs.Ytghgegghlefclaa

/- What receiving and doing many writes makes of a device; a new variable in a drawn region. -/
namespace Go.Proofs.Ytghgegghlefclaa
open Go.RowKit
/-- where a device in the loop may not lie -/
def MX (M : Nat → Prop) (D : Nat) (O : Option Nat) : Nat → Prop := fun i => M i ∨ i = D ∨ i = D + 1 ∨ some i = O
theorem gives_alloc_Z {P : Program} {w : World} {o : Oper} {a : Act} {R : Value → World → Prop} (t : TypeId) (ho : o.op = .alloc t) (z : Array Value) (hz : (zeroValue t).run P w = .ok (.agg z) w)
    (h : R (.pointer (some ⟨w.heap.size, 0, none⟩)) (w.alloc (.cells z t))) : gives P o a w R := by
  have hrun : (Instr.alloc t true (.tuple #[])).run P w = .ok (.pointer (some ⟨w.heap.size, 0, none⟩)) (w.alloc (.cells z t)) := by
    unfold Instr.alloc
    rw [Sem.run_bind, hz]
    rfl
  unfold gives
  simp [execOp, ho, hrun, Result.andThen, givesUpon]
  exact h
/-- the lists of a device are not long -/
structure Few (d : Dev) : Prop where
  t : d.table.length ≤ 1000
  dn : d.done.length ≤ 1000
  l : d.lost.length ≤ 1000
def stR (d : Dev) (l : List Wr) (k : Nat) : Dev × List Ak := (l.take k).foldl (fun s x => (recvD s.1 x, s.2 ++ recvA s.1 x)) (d, [])
theorem stR_succ {d : Dev} {l : List Wr} {k : Nat} {x : Wr} (hx : l[k]? = some x) : stR d l (k + 1) = (recvD (stR d l k).1 x, (stR d l k).2 ++ recvA (stR d l k).1 x) := by
  unfold stR
  rw [List.take_add_one, hx, List.foldl_append]; rfl
def stD (d : Dev) (l : List Nat) (k : Nat) : Dev × List Ak :=
  (l.take k).foldl (fun s n => match s.1.queue[n]? with | some x => (doW s.1 n x, s.2 ++ doA s.1 x) | none => s) (d, [])
theorem stD_succ {d : Dev} {l : List Nat} {k n : Nat} {x : Wr} (hn : l[k]? = some n) (hx : (stD d l k).1.queue[n]? = some x) : stD d l (k + 1) = (doW (stD d l k).1 n x, (stD d l k).2 ++ doA (stD d l k).1 x) := by
  have e : stD d l (k + 1) = (match (stD d l k).1.queue[n]? with | some x => (doW (stD d l k).1 n x, (stD d l k).2 ++ doA (stD d l k).1 x) | none => stD d l k) := by
    unfold stD
    rw [List.take_add_one, hn, List.foldl_append]; rfl
  rw [e, hx]
theorem recvA_len (d : Dev) (x : Wr) : (recvA d x).length ≤ 1 := by
  unfold recvA
  repeat' split
  all_goals simp
theorem doA_len (d : Dev) (x : Wr) : (doA d x).length ≤ 1 := by
  unfold doA
  split <;> simp
theorem Few.recv {d : Dev} (h : Few d) (x : Wr) : Few (recvD d x) := by
  have hf : Few (fresh d x) := by
    unfold fresh
    split
    · exact ⟨h.t, Nat.zero_le _, Nat.zero_le _⟩
    · exact h
  unfold recvD
  split
  · exact h
  · split
    · exact hf
    · split
      · exact hf
      · split
        · exact hf
        · exact ⟨hf.t, hf.dn, hf.l⟩
theorem stR_ok {d : Dev} {l : List Wr} (R : RD d) (F : Few d) (hf : ∀ x ∈ l, formedB x = true) (k : Nat) (hk : k ≤ l.length) : RD (stR d l k).1 ∧ Few (stR d l k).1 ∧ (stR d l k).2.length ≤ k := by
  induction k with
  | zero => exact ⟨R, F, Nat.le_refl _⟩
  | succ k ih =>
    obtain ⟨i1, i2, i3⟩ := ih (by omega)
    have hx : l[k]? = some l[k] := by simp
    rw [stR_succ hx]
    refine ⟨i1.recv (hf _ (List.getElem_mem _)), i2.recv _, ?_⟩
    have := recvA_len (stR d l k).1 l[k]
    rw [List.length_append]; omega
theorem stD_len {d : Dev} {l : List Nat} (k : Nat) : (stD d l k).2.length ≤ k := by
  induction k with
  | zero => exact Nat.le_refl _
  | succ k ih =>
    have e : stD d l (k + 1) = match l[k]? with
      | some n => (match (stD d l k).1.queue[n]? with | some x => (doW (stD d l k).1 n x, (stD d l k).2 ++ doA (stD d l k).1 x) | none => stD d l k)
      | none => stD d l k := by
      unfold stD
      rw [List.take_add_one, List.foldl_append]
      cases l[k]? <;> rfl
    rw [e]
    split
    · split
      · have := doA_len (stD d l k).1
        simp only [List.length_append]
        rename_i x _
        have := this x
        omega
      · omega
    · omega
theorem MX.at {w wr : World} {M : Nat → Prop} {O : Option Nat} (hM : ∀ i, M i → i < w.heap.size) (hs : w.heap.size + 2 ≤ wr.heap.size) (hO : ∀ g, O = some g → g < wr.heap.size) (i : Nat) (h : MX M w.heap.size O i) : i < wr.heap.size := by
  rcases h with h | h | h | h
  · have := hM i h; omega
  · omega
  · omega
  · exact hO i h.symm
theorem DevR.step' {w w' : World} {M M' M1 : Nat → Prop} {d : Dev} {ta qa da la : Option Addr} {tc qc dc lc : Nat} (h : DevR w M d ta tc qa qc da dc la lc) (k : Kept M1 w w') (h1 : ∀ i, i < w.heap.size → M1 i → M i) (hm : ∀ i, i < w.heap.size → M' i → M i) : DevR w' M' d ta tc qa qc da dc la lc :=
  h.step (k.mono h1) hm
def ENat (c : List Value) (n : Nat) : Prop := c = [.int .i64 n]
theorem nat_at {w : World} {M : Nat → Prop} {a : Option Addr} {n cap : Nat} {xs : List Nat} (h : RdS w M 1 ENat (.slice a n cap) xs) {k : Nat} {x : Nat} (hx : xs[k]? = some x) : ∃ b off, a = some ⟨b, off, none⟩ ∧ w.cell? ⟨b, off + k, none⟩ = some (.int .i64 x) := by
  obtain ⟨a', cap', e1, _, _, h4⟩ := h
  simp only [Value.slice.injEq] at e1
  obtain ⟨rfl, _, rfl⟩ := e1
  rcases h4 with ⟨h5, _⟩ | ⟨b, off, h5, h6⟩
  · rw [h5] at hx; simp at hx
  · obtain ⟨_, cs, q1, _, q3⟩ := h6 k x hx
    refine ⟨b, off, h5, ?_⟩
    have := q3 0 (.int .i64 x) (by rw [q1]; rfl)
    simpa using this
theorem int_at {w : World} {M : Nat → Prop} {a : Option Addr} {n cap : Nat} {xs : List Int} (h : RdS w M 1 EInt (.slice a n cap) xs) {k : Nat} {x : Int} (hx : xs[k]? = some x) : ∃ b off, a = some ⟨b, off, none⟩ ∧ w.cell? ⟨b, off + k, none⟩ = some (.int .i64 x) := by
  obtain ⟨a', cap', e1, _, _, h4⟩ := h
  simp only [Value.slice.injEq] at e1
  obtain ⟨rfl, _, rfl⟩ := e1
  rcases h4 with ⟨h5, _⟩ | ⟨b, off, h5, h6⟩
  · rw [h5] at hx; simp at hx
  · obtain ⟨_, cs, q1, _, q3⟩ := h6 k x hx
    refine ⟨b, off, h5, ?_⟩
    have := q3 0 (.int .i64 x) (by rw [q1]; rfl)
    simpa using this
end Go.Proofs.Ytghgegghlefclaa

/- An operation that its guard holds back. -/
namespace Go.Proofs.Ytghgegghlefclaa
open Go.RowKit
section
variable {w : World} {ops : Array Oper} {rest : List Oper} {o : Oper} {a : Act} {Q : Exit → Act → World → Prop}
/-- an operation that its guard holds back -/
theorem wpList_skip (hw : Region.wanted o (yielded ops a.tmps) = false) (h : wpList Try.prog ops Q rest (a.put o.dst undef) w) : wpList Try.prog ops Q (o :: rest) a w := by
  refine wpList_step fun K hK => ?_
  rw [if_neg (by rw [hw]; simp)]
  exact hK _ _ h
end
end Go.Proofs.Ytghgegghlefclaa
