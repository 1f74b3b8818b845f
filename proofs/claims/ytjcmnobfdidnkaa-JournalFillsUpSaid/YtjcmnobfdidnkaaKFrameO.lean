/- Texts that belong together: FrameO, FrameC. -/
import Derived.Test.YtjcmnobfdidnkaaKL5
import Derived.WalkKit
import Derived.ProofKit
import Derived.OpenShut
import Derived.ChangeSlices
import Derived.ChangeMaps5
import Derived.Deep.Slices
import Derived.Test.YtjcmnobfdidnkaaRows
import Derived.Carry
import Derived.ChangeSame
import Derived.Deep.DeepHandedRow
import Derived.LaidLaws
set_option linter.unusedVariables false
set_option linter.unusedSimpArgs false
set_option linter.unusedSectionVars false
/- Readings: a script, and a list of ints, that came in. -/
namespace Go.Proofs.Ytjcmnobfdidnkaa
open Go.ChangeShapes Go.WideShapes Go.ChangeAt Go.RowKit Go.Deep

theorem cellsOp : Try.prog.cellsOf 38 = 4 := by kernel_rfl
theorem cellsInt : Try.prog.cellsOf 3 = 1 := by kernel_rfl
theorem cellsByte : Try.prog.cellsOf 5 = 1 := by kernel_rfl
section
variable {H : Type} {enc : TypeId × Value → H} {W : World}
theorem spot_of {A : Addr} {v : Value} (h : W.cell? A = some v) : ∃ b off, A = ⟨b, off, none⟩ := by
  obtain ⟨b, off, spot⟩ := A
  have hspot : spot = none := World.cell?_spot h
  exact ⟨b, off, by rw [hspot]⟩
theorem ints_of {v : Value} {fuel : Nat} {x : DataW H × List MemPlace} (h : DataW.trod enc Try.prog W 0 (fun _ => true) true fuel 60 [v] = some x) : ∃ a pc zs, v = .slice a (List.length zs) pc ∧ RdS W NoM 1 EInt (.slice a zs.length pc) zs := by
  rcases open_ints Try.underlying60 Try.underlying3 cellsInt h with ⟨h0, _⟩ | ⟨A, len, cap, zs, h0, _, hl, hm, hz, _, hc, _⟩
  · simp only [List.cons.injEq, and_true] at h0
    subst h0
    exact ⟨none, 0, [], rfl, RdS.nil _ _ _ _⟩
  · simp only [List.cons.injEq, and_true] at h0
    subst h0
    simp only [if_true] at hz
    have hzl : (zs.take len).length = len := by rw [List.length_take]; omega
    refine ⟨some A, cap, zs.take len, by rw [hzl], some A, cap, by rw [hzl], by omega, hm, ?_⟩
    by_cases h0 : cap = 0
    · left
      exact ⟨List.eq_nil_of_length_eq_zero (by omega), h0⟩
    · right
      obtain ⟨b, off, rfl⟩ : ∃ b off, A = ⟨b, off, none⟩ := by
        obtain ⟨b, off, e⟩ := spot_of (hc 0 (by omega))
        obtain ⟨b', off', spot⟩ := A
        simp only [Addr.add, if_true] at e
        exact ⟨b', off', by simp only [Addr.mk.injEq] at e; rw [e.2.2]⟩
      refine ⟨b, off, rfl, fun i y hy => ⟨fun q => q, [.int .i64 y], rfl, rfl, fun j u hu => ?_⟩⟩
      have hi : i < (zs.take len).length := (List.getElem?_eq_some_iff.1 hy).1
      have hc' := hc i (by omega)
      rw [List.getElem?_take] at hy
      rw [if_pos (by omega)] at hy
      have e : zs.getD i 0 = y := by simp [List.getD, hy]
      rw [e, add_plain] at hc'
      match j, hu with
      | 0, hu =>
        simp only [List.getElem?_cons_zero, Option.some.injEq] at hu
        subst hu
        simpa using hc'
instance : Inhabited Jo := ⟨⟨0, 0, 0, 0⟩⟩
theorem byte_of {k : Int} (h : 0 ≤ k ∧ k ≤ 255) : ((UInt8.ofNat k.toNat).toNat : Int) = k := by
  have : (UInt8.ofNat k.toNat).toNat = k.toNat := by simp; omega
  rw [this]; omega
set_option maxRecDepth 100000 in
/-- the cells of a call -/
theorem jo_of {fuel : Nat} {cs : List Value} {x : DataW H × List MemPlace} (hlen : cs.length = 4) (h2 : DataW.trod enc Try.prog W 0 (fun _ => true) true fuel 38 cs = some x) : ∃ q : Jo, EJo cs q ∧ q.n ≤ 9223372036854775807 ∧ q.kind ≤ 9223372036854775807 := by
  obtain ⟨xs, k, hk, hxy, _, hxl, hf⟩ := DataW.trod_struct Try.underlying38 h2
  match xs, hxl, cs, hlen with
  | [y0, y1, y2, y3], _, [v0, v1, v2, v3], _ =>
    have g0 := hf 0 _ rfl
    have g1 := hf 1 _ rfl
    have g2 := hf 2 _ rfl
    have g3 := hf 3 _ rfl
    simp [cellsInt, cellsByte] at g0 g1 g2 g3
    obtain ⟨k0, e0, _, w0⟩ := DataW.trod_int Try.underlying3 g0
    obtain ⟨k1, e1, _, w1⟩ := DataW.trod_int Try.underlying3 g1
    obtain ⟨k2, e2, _, w2⟩ := DataW.trod_int Try.underlying3 g2
    obtain ⟨k3, e3, _, w3⟩ := DataW.trod_int Try.underlying5 g3
    simp only [List.cons.injEq, and_true] at e0 e1 e2 e3
    subst e0 e1 e2 e3
    refine ⟨⟨k0, k1, k2, UInt8.ofNat k3.toNat⟩, ?_, (bounds_i64 w1).2, (bounds_i64 w0).2⟩
    unfold EJo joC
    rw [byte_of (bounds_u8 w3)]
set_option maxRecDepth 100000 in
theorem ops_of {v : Value} {fuel : Nat} {x : DataW H × List MemPlace} (h : DataW.trod enc Try.prog W 0 (fun _ => true) true fuel 22 [v] = some x) : ∃ l, RdS W NoM 4 EJo v l := by
  rcases open_slice Try.underlying22 h with ⟨h0, _⟩ | ⟨A, len, cap, m, n, D, Pl, h0, hb, hl, hm, hmm, _, hx⟩
  · simp only [List.cons.injEq, and_true] at h0
    subst h0
    exact ⟨[], RdS.nil _ _ _ _⟩
  · simp only [List.cons.injEq, and_true] at h0
    subst h0
    simp only [if_true] at hmm
    have hsp : 0 < m → ∃ b off, A = ⟨b, off, none⟩ := by
      intro h0
      obtain ⟨cs', h1, _⟩ := hx 0 h0
      rw [cellsOp] at h1
      obtain ⟨_, hlen, hcell⟩ := World.cells?_some h1
      match cs', hlen with
      | [v0, v1, v2, v3], _ =>
        have c0 := hcell 0 (by omega)
        obtain ⟨b, off, spot⟩ := A
        have hspot : spot = none := by simpa [Addr.add] using World.cell?_spot c0
        exact ⟨b, off, by rw [hspot]⟩
    have each : ∀ i, i < m → ∃ q : Jo, ∃ b off, A = ⟨b, off, none⟩ ∧ ∃ cs, EJo cs q ∧ cs.length = 4 ∧ ∀ j u, cs[j]? = some u → W.cell? ⟨b, off + i * 4 + j, none⟩ = some u := by
      intro i hi
      obtain ⟨cs', h1, h2⟩ := hx i hi
      rw [cellsOp] at h1
      obtain ⟨_, hlen, hcell⟩ := World.cells?_some h1
      obtain ⟨q, hq, _, _⟩ := jo_of hlen h2
      obtain ⟨b, off, rfl⟩ := hsp (by omega)
      match cs', hlen, hcell, hq with
      | [v0, v1, v2, v3], _, hcell, hq =>
        have c0 := hcell 0 (by omega)
        have c1 := hcell 1 (by omega)
        have c2 := hcell 2 (by omega)
        have c3 := hcell 3 (by omega)
        simp only [add_plain] at c0 c1 c2 c3
        refine ⟨q, b, off, rfl, [v0, v1, v2, v3], hq, rfl, fun j u hu => ?_⟩
        match j, hu with
        | 0, hu => simp only [List.getElem?_cons_zero, Option.some.injEq] at hu; subst hu; simpa using c0
        | 1, hu => simp only [List.getElem?_cons_succ, List.getElem?_cons_zero, Option.some.injEq] at hu; subst hu; simpa using c1
        | 2, hu => simp only [List.getElem?_cons_succ, List.getElem?_cons_zero, Option.some.injEq] at hu; subst hu; simpa using c2
        | 3, hu => simp only [List.getElem?_cons_succ, List.getElem?_cons_zero, Option.some.injEq] at hu; subst hu; simpa using c3
    obtain ⟨q, hq⟩ := choose_lt each
    have hql : ((List.range len).map q).length = len := by simp
    refine ⟨(List.range len).map q, some A, cap, by rw [hql], by rw [hql]; exact hl, hm, ?_⟩
    by_cases h0 : cap = 0
    · left
      exact ⟨List.eq_nil_of_length_eq_zero (by omega), h0⟩
    · right
      obtain ⟨b, off, eA, _⟩ := hq 0 (by omega)
      refine ⟨b, off, by rw [eA], fun i y hy => ⟨fun q => q, ?_⟩⟩
      rw [List.getElem?_map] at hy
      simp only [Option.map_eq_some_iff] at hy
      obtain ⟨j, hj, rfl⟩ := hy
      obtain ⟨h1, h2⟩ := List.getElem?_eq_some_iff.1 hj
      simp only [List.length_range] at h1
      simp only [List.getElem_range] at h2
      subst h2
      obtain ⟨b', off', eA', r⟩ := hq i (by omega)
      rw [eA] at eA'
      simp only [Addr.mk.injEq, and_true] at eA'
      obtain ⟨rfl, rfl⟩ := eA'
      exact r
end
end Go.Proofs.Ytjcmnobfdidnkaa

/- The row's frame, common to this seat's laws: what a call that only adds memory leaves of its arguments. -/
namespace Go.Proofs.Ytjcmnobfdidnkaa
open Go.ChangeShapes Go.WideShapes Go.ChangeAt Go.RowKit

theorem own : ownKnob Try.prog.godebug = none := by kernel_rfl
theorem laidOut : laidOutB Try.prog = true := by kernel_rfl
/-- a law's last step: the call has added memory, and returned true -/
theorem post_of_below {H : Type} {enc : TypeId × Value → H} {P : Program} {f : Func} {s : ChangeSpec} {apart fresh handsOn again : Bool} {W W' : World} {args : Array Value} {v : Value} {ds gs : List (DataW H)} {before pa pv : List MemPlace}
    (hW : DataW.Whole enc P f.params.toList s.vars apart W args.toList ds gs before)
    (hres : ∀ (b : Nat) (sp : Nat → Bool) (hd : Bool), DataW.TrodAll enc P W' b sp hd f.resultTypes.toList (v.resultList f.resultTypes.size) (s.fn H (ds ++ gs)).results [])
    (hargs : ∀ sp : Nat → Bool, (∀ p ∈ before, sp p.block = true) → DataW.TrodAll enc P W' 0 sp true f.params.toList args.toList (s.fn H (ds ++ gs)).args pa)
    (hvars : ∀ sp : Nat → Bool, (∀ p ∈ before, sp p.block = true) → DataW.TrodVars enc P W' sp s.vars (s.fn H (ds ++ gs)).vars pv)
    (hps : before = pa ++ pv) (hb : Below W.heap.size W W')
    (hok : ∀ (j : Nat) (t : TypeId) (r : Value), f.resultTypes[j]? = some t → (v.resultList f.resultTypes.size)[j]? = some r → Value.okWide P W' .any 0 t r) :
    s.post enc P f apart fresh handsOn again W args v W' := by
  have hlt : ∀ p ∈ before, p.block < W.heap.size := fun p hp => hW.lt p hp
  have hold : ∀ p ∈ before, (fun b => decide (b < W.heap.size)) p.block = true := fun p hp => by simpa using hlt p hp
  refine ⟨ds, gs, before, [], pa, pv, hW, hres _ _ _, hargs _ hold, hvars _ hold, World.keptBut_mono (fun p hp => ⟨hp, ?_⟩) (hb.frame (· ∈ before)), fun _ => ?_⟩
  · rw [hps, List.mem_append] at hp
    exact Or.inr hp
  · obtain ⟨_, _, _, _, _, hz, hn⟩ := hW
    refine ⟨hok, _, _, ([] ++ pa) ++ pv, ⟨[] ++ pa, pv, trodAll_append (hargs _ (fun _ _ => rfl)) (hres _ _ _), hvars _ (fun _ _ => rfl), rfl, ?_, ?_⟩, ?_⟩
    · intro b off hp
      have hin : MemPlace.cell b off ∈ before := by rw [hps]; simpa using hp
      rw [hb.frozen (hlt _ hin)]
      exact hz b off hin
    · intro ha
      have := hn ha
      rw [hps] at this
      simpa using this
    · intro p hp _
      rw [hps]
      simpa using hp

/-- an argument reads as it did -/
theorem stays {H : Type} {enc : TypeId × Value → H} {t : TypeId} (hr : Try.prog.readableRec t = true) (hrow : t < Try.prog.types.size) {W W' : World} {sp : Nat → Bool} {v : Value} {d : DataW H} {ps : List MemPlace}
    (h : DataW.Trod enc Try.prog W 0 (fun _ => true) true t v d ps) (hb : Below W.heap.size W W') (hlt : ∀ x ∈ ps, x.block < W.heap.size) (hs : ∀ x ∈ ps, sp x.block = true) : DataW.Trod enc Try.prog W' 0 sp true t v d ps :=
  WideElems.Trod_stays laidOut hr hrow h (fun x hx => hb.same (hlt x hx)) hs

end Go.Proofs.Ytjcmnobfdidnkaa
