/- A map from page numbers to pages, in memory. Over any program. -/
import Derived.Test.YtjcmnobfdidnkaaKAgg
import Derived.Test.YtjcmnobfdidnkaaKD0
import Derived.Maps.RangeWalk
set_option linter.unusedVariables false
set_option linter.unusedSimpArgs false
set_option linter.unusedSectionVars false
namespace Go.Proofs.Ytjcmnobfdidnkaa
open Go.RowKit
open Go.WideElems (Fit rg rd)
open Go.Maps (Keyed)
def byteV (b : UInt8) : Value := .int .u8 b.toNat
def pgCells (p : Pg) : List Value := p.map byteV
def pgV (p : Pg) : Value := .agg (pgCells p).toArray
theorem pgCells_len (p : Pg) : (pgCells p).length = p.length := by simp [pgCells]
theorem pgCells_one (p : Pg) : ∀ u ∈ pgCells p, u.oneCell' = true := by
  intro u hu
  obtain ⟨b, _, rfl⟩ := List.mem_map.1 hu
  rfl
def byteOf : Value → Option UInt8
  | .int .u8 n => if 0 ≤ n ∧ n < 256 then some (UInt8.ofNat n.toNat) else none
  | _ => none
theorem byteOf_mk (b : UInt8) : byteOf (byteV b) = some b := by
  have h := b.toNat_lt
  show (if (0 : Int) ≤ (b.toNat : Int) ∧ (b.toNat : Int) < 256 then some (UInt8.ofNat (b.toNat : Int).toNat) else none) = some b
  rw [if_pos ⟨by omega, by omega⟩]
  simp
theorem byteOf_inv {v : Value} {b : UInt8} (h : byteOf v = some b) : v = byteV b := by
  unfold byteOf at h
  split at h
  · split at h
    · rename_i n hn
      simp only [Option.some.injEq] at h
      subst h
      unfold byteV
      congr 1
      simp only [UInt8.toNat_ofNat']
      omega
    · cases h
  · cases h
def bytesOf : List Value → Option Pg
  | [] => some []
  | v :: r => match byteOf v, bytesOf r with
    | some b, some l => some (b :: l)
    | _, _ => none
theorem bytesOf_mk (p : Pg) : bytesOf (pgCells p) = some p := by
  induction p with
  | nil => rfl
  | cons b p ih => simp only [pgCells, List.map_cons, bytesOf, byteOf_mk] at ih ⊢; rw [ih]
theorem bytesOf_inv {l : List Value} {p : Pg} (h : bytesOf l = some p) : l = pgCells p := by
  induction l generalizing p with
  | nil => simp only [bytesOf, Option.some.injEq] at h; subst h; rfl
  | cons v r ih =>
    simp only [bytesOf] at h
    split at h
    · rename_i b l h1 h2
      simp only [Option.some.injEq] at h
      subst h
      rw [byteOf_inv h1, ih h2]
      rfl
    · cases h
/-- how a page reads in the map -/
def pgR (v : Value) : Option (DataW Unit × List MemPlace) :=
  match v with
  | .agg cs => (bytesOf cs.toList).bind fun p => if p.length = 128 then some (.lit (.string p), []) else none
  | _ => none
theorem pgR_mk {p : Pg} (h : p.length = 128) : pgR (pgV p) = some (.lit (.string p), []) := by simp [pgR, pgV, bytesOf_mk, h]
theorem pgR_inv {v : Value} {y : DataW Unit × List MemPlace} (h : pgR v = some y) : ∃ p : Pg, v = pgV p ∧ p.length = 128 ∧ y = (.lit (.string p), []) := by
  unfold pgR at h
  split at h
  · rename_i cs
    cases hb : bytesOf cs.toList with
    | none => rw [hb] at h; cases h
    | some p =>
      rw [hb] at h
      simp only [Option.bind_some] at h
      split at h
      · rename_i hp
        simp only [Option.some.injEq] at h
        refine ⟨p, ?_, hp, h.symm⟩
        have := bytesOf_inv hb
        unfold pgV
        rw [← this]
      · cases h
  · cases h
/-- what is pending of a page that is told by an int -/
def gI (n : Nat) (g : Nat → Option Pg) (x : Int) : Option Pg := if 0 ≤ x ∧ x < n then g x.toNat else none
theorem gI_nat {n i : Nat} (g : Nat → Option Pg) (h : i < n) : gI n g i = g i := by unfold gI; rw [if_pos (by omega)]; simp
/-- block B is a map that holds just the pages that g tells, of those below n -/
def PMap (P : Program) (k : TypeId) (w : World) (B n : Nat) (g : Nat → Option Pg) : Prop :=
  ∃ D : DataW Unit, w.ownsMap P k pgR B n D ∧ (∀ x : Int, Maps.has D (.int .i64 x) = (gI n g x).isSome) ∧ ∀ x p, gI n g x = some p → p.length = 128 ∧ ∀ zd, D.atKey (.int .i64 x) zd = .lit (.string p)
section
variable {P : Program} {k e t : TypeId} {w w' : World} {B n : Nat} {g : Nat → Option Pg}
theorem PMap.lt (h : PMap P k w B n g) : B < w.heap.size := by obtain ⟨D, h, _⟩ := h; exact h.lt
theorem ownsMap_blk {b m : Nat} {D : DataW Unit} {R : Value → Option (DataW Unit × List MemPlace)} (h : w.ownsMap P k R b m D) (hb : w'.heap[b]? = w.heap[b]?) : w'.ownsMap P k R b m D := by
  obtain ⟨es, c, h1, h2⟩ := h
  exact ⟨es, c, hb.trans h1, h2⟩
theorem PMap.blk (h : PMap P k w B n g) (hb : w'.heap[B]? = w.heap[B]?) : PMap P k w' B n g := by
  obtain ⟨D, h1, h2⟩ := h
  exact ⟨D, ownsMap_blk h1 hb, h2⟩
theorem PMap.kept {M : Nat → Prop} (h : PMap P k w B n g) (hk : Kept M w w') (hm : ¬ M B) : PMap P k w' B n g := h.blk (hk.block B h.lt hm)
theorem PMap.congr {g' : Nat → Option Pg} (h : PMap P k w B n g) (hg : ∀ i, i < n → g i = g' i) : PMap P k w B n g' := by
  have e : gI n g = gI n g' := by
    funext x
    unfold gI
    split
    · exact hg _ (by omega)
    · rfl
  obtain ⟨D, h1, h2, h3⟩ := h
  rw [e] at h2 h3
  exact ⟨D, h1, h2, h3⟩
theorem wf64 {x : Int} (h1 : -9223372036854775808 ≤ x) (h2 : x ≤ 9223372036854775807) : (Lit.int .i64 x).wf = true := WalkArith.wf_i64 (by omega)
theorem gI_some {x : Int} {p : Pg} (h : gI n g x = some p) : 0 ≤ x ∧ x < n ∧ g x.toNat = some p := by
  unfold gI at h
  split at h
  · rename_i hx; exact ⟨hx.1, hx.2, h⟩
  · cases h
theorem nodup_le : ∀ {n : Nat} {l : List Nat}, l.Nodup → (∀ i ∈ l, i < n) → l.length ≤ n
  | 0, [], _, _ => Nat.le_refl _
  | 0, i :: l, _, hb => by have := hb i List.mem_cons_self; omega
  | n + 1, l, hd, hb => by
    have h := nodup_le (n := n) (l := l.erase n) (hd.erase n) (fun i hi => by
      have h1 := hb i (List.mem_of_mem_erase hi)
      have h2 : i ≠ n := fun e => by subst e; exact (List.Nodup.not_mem_erase hd) hi
      omega)
    have := List.length_erase (a := n) (l := l)
    split at this <;> omega
/-- the bound on the entries, made tight -/
theorem tight {m : Nat} {D : DataW Unit} (hk : P.underlying k = some (.int .i64)) (h : w.ownsMap P k pgR B m D) (hd : ∀ x : Int, Maps.has D (.int .i64 x) = (gI n g x).isSome) : w.ownsMap P k pgR B n D := by
  have K := Maps.int_keyed hk
  have T := h.tidy K
  obtain ⟨es, clock, h1, F, h3, h4⟩ := h
  obtain ⟨l, rfl, hl⟩ := T
  have hkeys : ∀ p ∈ l, ∃ x : Int, p.1 = .int .i64 x := by
    intro p hp
    simp only [DataW.map.injEq] at h4
    rw [h4] at hp
    obtain ⟨x, hx, rfl⟩ := List.mem_map.1 (mem_sorted.1 hp)
    obtain ⟨y, hy⟩ := F.reads x hx
    rw [Go.WideElems.rg_of hy]
    obtain ⟨q, _, e2, _⟩ := Maps.keyOf_int_inv hk (Go.WideElems.rd_key hy)
    exact ⟨q, e2⟩
  have hlen : l.length = es.size := by
    simp only [DataW.map.injEq] at h4
    rw [h4, length_sorted]; simp
  refine ⟨es, clock, h1, F, ?_, h4⟩
  rw [← hlen]
  let f : Lit × DataW Unit → Nat := fun p => match p.1 with | .int _ x => x.toNat | _ => 0
  have hin : ∀ p ∈ l, ∀ x, p.1 = .int .i64 x → 0 ≤ x ∧ x < n := by
    intro p hp x hx
    have : Maps.has (DataW.map l) (.int .i64 x) = true := List.any_eq_true.2 ⟨p, hp, by rw [hx]; simp [Lit.sameKey]⟩
    rw [hd] at this
    obtain ⟨q, hq⟩ := Option.isSome_iff_exists.1 this
    exact ⟨(gI_some hq).1, (gI_some hq).2.1⟩
  have hnd : (l.map f).Nodup := by
    rw [List.nodup_iff_pairwise_ne, List.pairwise_map]
    refine hl.imp_of_mem fun {a b} ha hb hne he => hne ?_
    obtain ⟨x, hx⟩ := hkeys a ha
    obtain ⟨y, hy⟩ := hkeys b hb
    have h5 := hin a ha x hx
    have h6 := hin b hb y hy
    simp only [f, hx, hy] at he
    rw [hx, hy]
    congr 1; omega
  have := nodup_le (n := n) hnd (by
    intro i hi
    obtain ⟨p, hp, rfl⟩ := List.mem_map.1 hi
    obtain ⟨x, hx⟩ := hkeys p hp
    have := hin p hp x hx
    simp only [f, hx]; omega)
  simpa using this
theorem PMap.made (w : World) (P : Program) (k : TypeId) (n : Nat) : PMap P k (w.alloc (.map #[] 0)) w.heap.size n (fun _ => none) :=
  ⟨.map [], (World.ownsMap_made w P k pgR).mono (Nat.zero_le _), fun x => by unfold gI; split <;> rfl, fun x p h => by unfold gI at h; split at h <;> cases h⟩
/-- 'p, is := m[i]' -/
theorem PMap.look (h : PMap P k w B n g) (hk : P.underlying k = some (.int .i64)) (ht : P.underlying t = some (.map k e)) {zp : Pg} (hz : (zeroValue e).run P w = .ok (pgV zp) w) (hzl : zp.length = 128) (x : Int) (h1 : -9223372036854775808 ≤ x) (h2 : x ≤ 9223372036854775807) :
    (Instr.lookup t (.map (some B)) (.int .i64 x) true).run P w = .ok (.tuple #[pgV ((gI n g x).getD zp), .bool (gI n g x).isSome]) w := by
  obtain ⟨D, hD, d1, d2⟩ := h
  obtain ⟨v, ps, hrun, hv⟩ := hD.look_ok (Maps.int_keyed hk) ht hz (pgR_mk hzl) (Maps.keyOf_int_mk hk (wf64 h1 h2))
  rw [hrun, d1]
  congr 3
  obtain ⟨p, rfl, hp, hy⟩ := pgR_inv hv
  simp only [Prod.mk.injEq] at hy
  cases hg : gI n g x with
  | none =>
    have : Maps.has D (.int .i64 x) = false := by rw [d1, hg]; rfl
    rw [Maps.atKey_of_not_has this] at hy
    simp only [DataW.lit.injEq, Lit.string.injEq] at hy
    rw [← hy.1]; rfl
  | some q =>
    rw [(d2 x q hg).2] at hy
    simp only [DataW.lit.injEq, Lit.string.injEq] at hy
    rw [← hy.1]; rfl
/-- 'p := m[i]' -/
theorem PMap.get (h : PMap P k w B n g) (hk : P.underlying k = some (.int .i64)) (ht : P.underlying t = some (.map k e)) {zp : Pg} (hz : (zeroValue e).run P w = .ok (pgV zp) w) (hzl : zp.length = 128) (x : Int) (h1 : -9223372036854775808 ≤ x) (h2 : x ≤ 9223372036854775807) :
    (Instr.lookup t (.map (some B)) (.int .i64 x) false).run P w = .ok (pgV ((gI n g x).getD zp)) w := by
  obtain ⟨D, hD, d1, d2⟩ := h
  obtain ⟨v, ps, hrun, hv⟩ := hD.lookup (Maps.int_keyed hk) ht hz (pgR_mk hzl) (Maps.keyOf_int_mk hk (wf64 h1 h2))
  rw [hrun]
  congr 1
  obtain ⟨p, rfl, hp, hy⟩ := pgR_inv hv
  simp only [Prod.mk.injEq] at hy
  cases hg : gI n g x with
  | none =>
    have : Maps.has D (.int .i64 x) = false := by rw [d1, hg]; rfl
    rw [Maps.atKey_of_not_has this] at hy
    simp only [DataW.lit.injEq, Lit.string.injEq] at hy
    rw [← hy.1]; rfl
  | some q =>
    rw [(d2 x q hg).2] at hy
    simp only [DataW.lit.injEq, Lit.string.injEq] at hy
    rw [← hy.1]; rfl
theorem kept_grown {M : Nat → Prop} {b : Nat} (h : w.grownBy w' (some b)) (hM : M b) : Kept M w w' :=
  ⟨h.os, h.tape, h.output, h.size, fun i hi hn => h.block i hi (fun e => hn (by cases e; exact hM))⟩
/-- 'm[i] = p' -/
theorem PMap.put (h : PMap P k w B n g) (hk : P.underlying k = some (.int .i64)) (ht : P.underlying t = some (.map k e)) (hn : n < 1000000) {i : Nat} (hi : i < n) {p : Pg} (hp : p.length = 128) :
    ∃ w', (Instr.mapUpdate t (.map (some B)) (.int .i64 i) (pgV p)).run P w = .ok () w' ∧ PMap P k w' B n (fun j => if j = i then some p else g j) ∧ Kept (fun b => b = B) w w' ∧ w'.heap.size = w.heap.size := by
  obtain ⟨D, hD, d1, d2⟩ := h
  obtain ⟨w', hrun, hD', hg⟩ := hD.store (Maps.int_keyed hk) ht (by unfold maxLen; omega) (Maps.keyOf_int_mk hk (wf64 (x := (i : Int)) (by omega) (by omega))) (pgR_mk hp)
  have hm := hD.isMap
  have hkl : WideAt.IsKeyLit (.int .i64 (i : Int)) := (Maps.int_keyed hk).key (Maps.keyOf_int_mk hk (wf64 (x := (i : Int)) (by omega) (by omega)))
  have hgi : ∀ x : Int, gI n (fun j => if j = i then some p else g j) x = if x = (i : Int) then some p else gI n g x := by
    intro x
    unfold gI
    by_cases hx : x = (i : Int)
    · subst hx; rw [if_pos (by omega), if_pos rfl]; simp
    · rw [if_neg hx]
      split
      · show (if x.toNat = i then some p else g x.toNat) = _
        rw [if_neg (by omega)]
      · rfl
  refine ⟨w', hrun, ⟨_, tight hk hD' (g := fun j => if j = i then some p else g j) ?_, ?_, ?_⟩, kept_grown hg.grown rfl, ?_⟩
  · intro x
    rw [hgi]
    by_cases hx : x = (i : Int)
    · subst hx; rw [if_pos rfl, Maps.has_put_same hm hkl]; rfl
    · rw [if_neg hx, Maps.has_put_other (by simpa using hx), d1]
  · intro x
    rw [hgi]
    by_cases hx : x = (i : Int)
    · subst hx; rw [if_pos rfl, Maps.has_put_same hm hkl]; rfl
    · rw [if_neg hx, Maps.has_put_other (by simpa using hx), d1]
  · intro x q hq
    rw [hgi] at hq
    by_cases hx : x = (i : Int)
    · subst hx
      rw [if_pos rfl] at hq
      cases hq
      exact ⟨hp, fun zd => Maps.atKey_put_same hm hkl _ _⟩
    · rw [if_neg hx] at hq
      obtain ⟨e1, e2⟩ := d2 x q hq
      exact ⟨e1, fun zd => by rw [Maps.atKey_put_other (by simpa using hx)]; exact e2 zd⟩
  · obtain ⟨es, c, es', c', hb, rfl⟩ := hg
    simp [Go.ChangeMaps.setBlock]
/-- 'clear(m)' -/
theorem PMap.clear (h : PMap P k w B n g) (ht : P.underlying t = some (.map k e)) (ty : TypeId) :
    ∃ w', (Builtin.clear_ #[t] ty #[.map (some B)]).run P w = .ok (.tuple #[]) w' ∧ PMap P k w' B n (fun _ => none) ∧ Kept (fun b => b = B) w w' ∧ w'.heap.size = w.heap.size := by
  obtain ⟨D, ⟨es, clock, hb, F, hs, hD⟩, d1, d2⟩ := h
  refine ⟨Go.ChangeMaps.setBlock w B (.map #[] clock), ?_, ⟨.map [], ⟨#[], clock, Go.ChangeMaps.heap_setBlock_same hb _, ⟨by simp, ?_, by simp⟩, Nat.zero_le _, rfl⟩, fun x => by unfold gI; split <;> rfl, fun x p h => by unfold gI at h; split at h <;> cases h⟩, ?_, ?_⟩
  · simp [Builtin.clear_, run_underlying ht, MapKept.run_getObj_map hb, Go.MapKept.run_setObj_map _ hb, Result.andThen]
    rfl
  · exact Go.MapKept.stamped_empty _
  · exact ⟨rfl, rfl, rfl, by simp [Go.ChangeMaps.setBlock], fun i hi hn => Go.ChangeMaps.heap_setBlock_other hb _ hn⟩
  · simp [Go.ChangeMaps.setBlock]
end
/-- block r is an iterator over the map in block B; 'left' tells which pages are still to come -/
def PRange (P : Program) (k : TypeId) (w : World) (B r n : Nat) (g : Nat → Option Pg) (left : Nat → Bool) (cnt : Nat) : Prop :=
  ∃ (D : DataW Unit) (L : Lit → Bool), w.ranges P k pgR B r n D L cnt ∧ (∀ i : Nat, left i = L (.int .i64 i)) ∧ (∀ x : Int, Maps.has D (.int .i64 x) = (gI n g x).isSome) ∧ (∀ x, L (.int .i64 x) = true → (gI n g x).isSome = true) ∧
    ∀ x p, gI n g x = some p → p.length = 128 ∧ ∀ zd, D.atKey (.int .i64 x) zd = .lit (.string p)
section
variable {P : Program} {k e t : TypeId} {w w' : World} {B r n cnt : Nat} {g : Nat → Option Pg} {left : Nat → Bool}
theorem PRange.map (h : PRange P k w B r n g left cnt) : PMap P k w B n g := by
  obtain ⟨D, L, h1, h2, h3, h4, h5⟩ := h
  exact ⟨D, h1.owns, h3, h5⟩
theorem PRange.left_eq (h : PRange P k w B r n g left cnt) : w.rangeLeft B r = cnt := by
  obtain ⟨D, L, h1, _⟩ := h
  exact h1.left_eq
theorem PRange.ne (h : PRange P k w B r n g left cnt) : r ≠ B := by obtain ⟨D, L, h1, _⟩ := h; exact h1.ne
theorem PRange.lt (h : PRange P k w B r n g left cnt) : r < w.heap.size := by obtain ⟨D, L, h1, _⟩ := h; exact h1.lt
theorem ranges_blk {R : Value → Option (DataW Unit × List MemPlace)} {b m : Nat} {D : DataW Unit} {L : Lit → Bool} (h : w.ranges P k R b r m D L cnt) (hb : w'.heap[b]? = w.heap[b]?) (hr : w'.heap[r]? = w.heap[r]?) : w'.ranges P k R b r m D L cnt := by
  obtain ⟨es, clock, since, seen, c0, h1, h2, h3, h4, h5, rest⟩ := h
  exact ⟨es, clock, since, seen, c0, hb.trans h1, h2, h3, h4, hr.trans h5, rest⟩
theorem PRange.kept {M : Nat → Prop} (h : PRange P k w B r n g left cnt) (hk : Kept M w w') (hB : ¬ M B) (hr : ¬ M r) : PRange P k w' B r n g left cnt := by
  have h1 := h.map.lt
  have h2 := h.lt
  obtain ⟨D, L, h3, h4⟩ := h
  exact ⟨D, L, ranges_blk h3 (hk.block B h1 hB) (hk.block r h2 hr), h4⟩
theorem kept_none (h : w.grownBy w' none) : Kept NoM w w' := ⟨h.os, h.tape, h.output, h.size, fun i hi _ => h.block i hi (by simp)⟩
theorem PMap.range (h : PMap P k w B n g) (hk : P.underlying k = some (.int .i64)) (ht : P.underlying t = some (.map k e)) :
    ∃ w' left cnt, (Instr.range t (.map (some B))).run P w = .ok (.pointer (some ⟨w.heap.size, 0, none⟩)) w' ∧ PRange P k w' B w.heap.size n g left cnt ∧ (∀ i, i < n → left i = (g i).isSome) ∧ Kept NoM w w' ∧ w'.heap.size = w.heap.size + 1 := by
  obtain ⟨D, h1, h2, h3⟩ := h
  obtain ⟨w', hrun, hr, hg, hs⟩ := h1.range (Maps.int_keyed hk) ht
  refine ⟨w', fun i => Maps.has D (.int .i64 i), _, hrun, ⟨D, Maps.has D, hr, fun _ => rfl, h2, fun x hx => by rw [← h2]; exact hx, h3⟩, fun i hi => by show Maps.has D _ = _; rw [h2, gI_nat g hi], kept_none hg, hs⟩
theorem PRange.next (h : PRange P k w B r n g left cnt) (hk : P.underlying k = some (.int .i64)) (ty : TypeId) :
    ((∀ i, left i = false) ∧ (Instr.next (.pointer (some ⟨r, 0, none⟩)) false ty).run P w = .ok (.tuple #[.bool false]) w) ∨
    ∃ i p w' cnt', i < n ∧ g i = some p ∧ p.length = 128 ∧ left i = true ∧ (Instr.next (.pointer (some ⟨r, 0, none⟩)) false ty).run P w = .ok (.tuple #[.bool true, .int .i64 (i : Nat), pgV p]) w' ∧
      PRange P k w' B r n g (fun j => left j && !(j == i)) cnt' ∧ cnt' < cnt ∧ Kept (fun b => b = r) w w' ∧ w'.heap.size = w.heap.size ∧ (Instr.entry (.pointer (some ⟨r, 0, none⟩))).run P w' = .ok (.tuple #[.int .i64 (i : Nat), pgV p]) w' := by
  obtain ⟨D, L, h1, h2, h3, h4, h5⟩ := h
  rcases h1.next (Maps.int_keyed hk) ty with ⟨h0, hl, hrun⟩ | ⟨key, v, kl, y, w', cnt', hkey, hlk, hv, hat, hrun, hrg, hlt, hgr, hsz, hen⟩
  · exact .inl ⟨fun i => by rw [h2]; exact hl _, hrun⟩
  · right
    obtain ⟨x, rfl, rfl, hwx⟩ := Maps.keyOf_int_inv hk hkey
    obtain ⟨p, hp⟩ := Option.isSome_iff_exists.1 (h4 x hlk)
    obtain ⟨q1, q2, q3⟩ := gI_some hp
    obtain ⟨i, rfl⟩ := Int.eq_ofNat_of_zero_le q1
    obtain ⟨p', rfl, hpl, hy⟩ := pgR_inv hv
    have e1 := (h5 _ _ hp).2 .nil
    rw [hat .nil, hy] at e1
    simp only [DataW.lit.injEq, Lit.string.injEq] at e1
    subst e1
    refine ⟨i, p', w', cnt', by omega, by simpa using q3, hpl, by rw [h2]; exact hlk, hrun, ⟨D, _, hrg, fun j => ?_, h3, fun z hz => ?_, h5⟩, hlt, kept_grown hgr rfl, hsz, hen⟩
    · show (left j && !(j == i)) = _
      rw [h2]
      by_cases hji : j = i
      · subst hji; simp [Lit.sameKey]
      · have : ¬ (j : Int) = (i : Int) := by omega
        simp [Lit.sameKey, hji, this]
    · simp only [Bool.and_eq_true] at hz
      exact h4 z hz.1
variable {ops : Array Oper} {rest : List Oper} {o : Oper} {a : Act} {Q : Exit → Act → World → Prop}
theorem wpList_range_P (hg : o.guard = none) (m : Operand) (t : TypeId) (hop : o.op = Op.range t m) (hk : P.underlying k = some (.int .i64)) (ht : P.underlying t = some (.map k e)) (hm : a.eval m = .map (some B)) (h : PMap P k w B n g)
    (hK : ∀ w' left cnt, PRange P k w' B w.heap.size n g left cnt → (∀ i, i < n → left i = (g i).isSome) → Kept NoM w w' → w'.heap.size = w.heap.size + 1 → wpList P ops Q rest (a.put o.dst (.pointer (some ⟨w.heap.size, 0, none⟩))) w') :
    wpList P ops Q (o :: rest) a w := by
  refine wpList_plain hg fun K' hK' => ?_
  obtain ⟨w', left, cnt, hrun, r1, r2, r3, r4⟩ := h.range hk ht
  unfold Oper.wp
  simp [execOp, hop, hm, hrun, Result.andThen]
  exact hK' _ _ (hK w' left cnt r1 r2 r3 r4)
theorem wpList_next_P (hg : o.guard = none) (it : Operand) (hop : o.op = Op.next it false) (hk : P.underlying k = some (.int .i64)) (hit : a.eval it = .pointer (some ⟨r, 0, none⟩)) (h : PRange P k w B r n g left cnt)
    (hDone : (∀ i, left i = false) → wpList P ops Q rest (a.put o.dst (.tuple #[.bool false])) w)
    (hMore : ∀ i p w' cnt', i < n → g i = some p → p.length = 128 → left i = true → PRange P k w' B r n g (fun j => left j && !(j == i)) cnt' → cnt' < cnt → Kept (fun b => b = r) w w' → w'.heap.size = w.heap.size →
      (Instr.entry (.pointer (some ⟨r, 0, none⟩))).run P w' = .ok (.tuple #[.int .i64 (i : Nat), .agg (pgCells p).toArray]) w' → wpList P ops Q rest (a.put o.dst (.tuple #[.bool true, .int .i64 (i : Nat), .agg (pgCells p).toArray])) w') :
    wpList P ops Q (o :: rest) a w := by
  refine wpList_plain hg fun K' hK' => ?_
  unfold Oper.wp
  rcases h.next hk o.type with ⟨hl, hrun⟩ | ⟨i, p, w', cnt', c1, c2, c3, c4, hrun, c5, c6, c7, c8, c9⟩
  · simp [execOp, hop, hit, hrun, Result.andThen]
    exact hK' _ _ (hDone hl)
  · simp [execOp, hop, hit, hrun, Result.andThen]
    exact hK' _ _ (hMore i p w' cnt' c1 c2 c3 c4 c5 c6 c7 c8 c9)
theorem wpList_look_P (hg : o.guard = none) (m x : Operand) (t : TypeId) (hop : o.op = Op.lookup t m x true) (hk : P.underlying k = some (.int .i64)) (ht : P.underlying t = some (.map k e)) {zp : Pg} (hz : ∀ w, (zeroValue e).run P w = .ok (pgV zp) w) (hzl : zp.length = 128)
    (hm : a.eval m = .map (some B)) (h : PMap P k w B n g) (i : Int) (hx : a.eval x = .int .i64 i) (h1 : -9223372036854775808 ≤ i) (h2 : i ≤ 9223372036854775807)
    (hK : wpList P ops Q rest (a.put o.dst (.tuple #[.agg (pgCells ((gI n g i).getD zp)).toArray, .bool (gI n g i).isSome])) w) : wpList P ops Q (o :: rest) a w := by
  refine wpList_plain hg fun K' hK' => ?_
  have hrun := h.look hk ht (hz w) hzl i h1 h2
  unfold Oper.wp
  simp [execOp, hop, hm, hx, hrun, Result.andThen]
  exact hK' _ _ hK
theorem wpList_get_P (hg : o.guard = none) (m x : Operand) (t : TypeId) (hop : o.op = Op.lookup t m x false) (hk : P.underlying k = some (.int .i64)) (ht : P.underlying t = some (.map k e)) {zp : Pg} (hz : ∀ w, (zeroValue e).run P w = .ok (pgV zp) w) (hzl : zp.length = 128)
    (hm : a.eval m = .map (some B)) (h : PMap P k w B n g) (i : Int) (hx : a.eval x = .int .i64 i) (h1 : -9223372036854775808 ≤ i) (h2 : i ≤ 9223372036854775807)
    (hK : wpList P ops Q rest (a.put o.dst (.agg (pgCells ((gI n g i).getD zp)).toArray)) w) : wpList P ops Q (o :: rest) a w := by
  refine wpList_plain hg fun K' hK' => ?_
  have hrun := h.get hk ht (hz w) hzl i h1 h2
  unfold Oper.wp
  simp [execOp, hop, hm, hx, hrun, Result.andThen]
  exact hK' _ _ hK
theorem wp_put_P {K : Act → World → Prop} (m x v : Operand) (t : TypeId) (hop : o.op = Op.mapUpdate t m x v) (hk : P.underlying k = some (.int .i64)) (ht : P.underlying t = some (.map k e)) (hn : n < 1000000)
    (hm : a.eval m = .map (some B)) (h : PMap P k w B n g) (i : Nat) (hx : a.eval x = .int .i64 i) (hi : i < n) (p : Pg) (hp : p.length = 128) (hv : a.eval v = .agg (pgCells p).toArray)
    (hK : ∀ w', PMap P k w' B n (fun j => if j = i then some p else g j) → Kept (fun b => b = B) w w' → w'.heap.size = w.heap.size → K (a.put o.dst undef) w') : o.wp P a w K Q := by
  obtain ⟨w', hrun, r1, r2, r3⟩ := h.put hk ht hn hi hp
  unfold Oper.wp
  have hrun' := hrun
  unfold pgV at hrun'
  simp [execOp, hop, hm, hx, hv, hrun', Result.andThen]
  exact hK w' r1 r2 r3
theorem wpList_put_P (hg : o.guard = none) (m x v : Operand) (t : TypeId) (hop : o.op = Op.mapUpdate t m x v) (hk : P.underlying k = some (.int .i64)) (ht : P.underlying t = some (.map k e)) (hn : n < 1000000)
    (hm : a.eval m = .map (some B)) (h : PMap P k w B n g) (i : Nat) (hx : a.eval x = .int .i64 i) (hi : i < n) (p : Pg) (hp : p.length = 128) (hv : a.eval v = .agg (pgCells p).toArray)
    (hK : ∀ w', PMap P k w' B n (fun j => if j = i then some p else g j) → Kept (fun b => b = B) w w' → w'.heap.size = w.heap.size → wpList P ops Q rest (a.put o.dst undef) w') : wpList P ops Q (o :: rest) a w :=
  wpList_plain hg fun K' hK' => wp_put_P m x v t hop hk ht hn hm h i hx hi p hp hv fun w' r1 r2 r3 => hK' _ _ (hK w' r1 r2 r3)
theorem wpList_clear_P (hg : o.guard = none) (m : Operand) (t : TypeId) (hop : o.op = .call { callee := .builtin .clear, args := #[m], argTypes := #[t] }) (ht : P.underlying t = some (.map k e))
    (hm : a.eval m = .map (some B)) (h : PMap P k w B n g)
    (hK : ∀ w', PMap P k w' B n (fun _ => none) → Kept (fun b => b = B) w w' → w'.heap.size = w.heap.size → wpList P ops Q rest (a.put o.dst (.tuple #[])) w') : wpList P ops Q (o :: rest) a w := by
  refine wpList_plain hg fun K' hK' => ?_
  obtain ⟨w', hrun, r1, r2, r3⟩ := h.clear ht o.type
  unfold Oper.wp
  simp [execOp, hop, resolve, invoke, builtin, hm, hrun, Result.andThen]
  exact hK' _ _ (hK w' r1 r2 r3)
end
end Go.Proofs.Ytjcmnobfdidnkaa
