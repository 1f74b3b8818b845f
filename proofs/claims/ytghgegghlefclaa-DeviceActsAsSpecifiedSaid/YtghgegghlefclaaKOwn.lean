/- Texts that belong together: Own, Base2, Base3. -/
import Derived.Test.YtghgegghlefclaaKBase
import Derived.Deep.RegionLaw
import Derived.Laws.AppendOwnNone
set_option linter.unusedVariables false
set_option linter.unusedSimpArgs false
set_option linter.unusedSectionVars false
/- Slices that the call owns: append, stores. Over any program. -/
namespace Go.Proofs.Ytghgegghlefclaa
open Go.RowKit

/-- what the laws ask of a slice type t over elements e -/
def SlTy (P : Program) (t e : TypeId) (sz bytes : Nat) : Prop :=
  ∃ i z, P.underlying t = some (.slice e) ∧ P.info? e = some i ∧ i.zero = some z ∧ i.size = sz ∧ i.bytes = bytes ∧ z.cells.size = sz ∧ 0 < sz

theorem SlTy.of {P : Program} {t e : TypeId} {sz bytes : Nat} (z : Value) (h1 : P.underlying t = some (.slice e)) (h2 : (P.info? e).map (fun i => (i.zero, i.size, i.bytes)) = some (some z, sz, bytes)) (h3 : z.cells.size = sz) (h4 : 0 < sz) : SlTy P t e sz bytes := by
  cases hi : P.info? e with
  | none => rw [hi] at h2; cases h2
  | some i =>
    rw [hi] at h2
    simp only [Option.map_some, Option.some.injEq, Prod.mk.injEq] at h2
    exact ⟨i, z, h1, hi, h2.1, h2.2.1, h2.2.2, h3, h4⟩

/-- The slice v owns a row of its own, in block O, with the elements xs. -/
def OwnS {α : Type} (w : World) (O : Option Nat) (e : TypeId) (sz : Nat) (E : List Value → α → Prop) (v : Value) (xs : List α) : Prop :=
  v.ownBlock = O ∧ ∃ cs : List (List Value), w.ownsRow 0 e sz v xs.length cs.flatten ∧ cs.length = xs.length ∧ ∀ (i : Nat) (c : List Value) (x : α), cs[i]? = some c → xs[i]? = some x → c.length = sz ∧ E c x

theorem flatten_length {cs : List (List Value)} {sz : Nat} (h : ∀ c ∈ cs, c.length = sz) : cs.flatten.length = cs.length * sz := by
  induction cs with
  | nil => simp
  | cons c cs ih =>
    simp only [List.flatten_cons, List.length_append, List.length_cons, ih (fun x hx => h x (List.mem_cons_of_mem _ hx)), h c List.mem_cons_self, Nat.add_mul]
    omega
theorem flatten_at {cs : List (List Value)} {sz : Nat} (h : ∀ c ∈ cs, c.length = sz) (i j : Nat) (c : List Value) (u : Value) (hc : cs[i]? = some c) (hu : c[j]? = some u) : cs.flatten[i * sz + j]? = some u := by
  induction cs generalizing i with
  | nil => simp at hc
  | cons d cs ih =>
    have hd := h d List.mem_cons_self
    cases i with
    | zero =>
      simp only [List.getElem?_cons_zero, Option.some.injEq] at hc
      subst hc
      have hj : j < d.length := (List.getElem?_eq_some_iff.1 hu).1
      simp only [List.flatten_cons, Nat.zero_mul, Nat.zero_add]
      rw [List.getElem?_append_left hj]; exact hu
    | succ i =>
      simp only [List.getElem?_cons_succ] at hc
      have := ih (fun x hx => h x (List.mem_cons_of_mem _ hx)) i hc
      simp only [List.flatten_cons]
      rw [List.getElem?_append_right (by rw [hd, Nat.succ_mul]; omega), hd, show (i + 1) * sz + j - sz = i * sz + j by rw [Nat.succ_mul]; omega]
      exact this

section
variable {α : Type} {M M' : Nat → Prop} {w w' : World} {O : Option Nat} {e : TypeId} {sz : Nat} {E E' : List Value → α → Prop} {v : Value} {xs ys : List α}
theorem OwnS.lens (h : OwnS w O e sz E v xs) : ∃ cs : List (List Value), w.ownsRow 0 e sz v xs.length cs.flatten ∧ cs.length = xs.length ∧ (∀ (i : Nat) (c : List Value) (x : α), cs[i]? = some c → xs[i]? = some x → c.length = sz ∧ E c x) ∧ ∀ c ∈ cs, c.length = sz := by
  obtain ⟨_, cs, h1, h2, h3⟩ := h
  refine ⟨cs, h1, h2, h3, fun c hc => ?_⟩
  obtain ⟨i, hi, rfl⟩ := List.getElem_of_mem hc
  have hx : xs[i]? = some (xs[i]'(by omega)) := by simp
  exact (h3 i _ _ (by simp [hi]) hx).1
theorem OwnS.lt (h : OwnS w O e sz E v xs) : ∀ k, O = some k → k < w.heap.size := by
  intro k hk
  obtain ⟨h0, cs, h1, _⟩ := h
  exact (h1.lt k (h0.trans hk)).2
theorem OwnS.shape (h : OwnS w O e sz E v xs) : ∃ a cap, v = .slice a xs.length cap ∧ xs.length ≤ cap ∧ cap ≤ maxLen ∧ (a = none → xs.length = 0 ∧ O = none) ∧ (∀ b, a = some b → ∃ g, b = ⟨g, 0, none⟩ ∧ O = some g) := by
  obtain ⟨h0, cs, h1, h2, h3⟩ := h
  rcases h1.2 with ⟨rfl, hn⟩ | ⟨g, cap, cur, rfl, _, hg, hc, hm, _⟩
  · exact ⟨none, 0, by rw [hn], by omega, Nat.zero_le _, fun _ => ⟨hn, by simpa [Value.ownBlock] using h0.symm⟩, fun b hb => by cases hb⟩
  · refine ⟨_, cap, rfl, hc, hm, (fun h => by cases h), fun b hb => ⟨g, by simpa using hb.symm, by simpa [Value.ownBlock] using h0.symm⟩⟩
/-- it reads as its list -/
theorem OwnS.rd (h : OwnS w O e sz E v xs) (hM : ∀ g, O = some g → ¬ M g) : RdS w M sz E v xs := by
  obtain ⟨cs, h1, h2, h3, h4⟩ := h.lens
  have h0 := h.1
  rcases h1.2 with ⟨rfl, hn⟩ | ⟨g, cap, cur, rfl, _, hg, hc, hm, _⟩
  · obtain rfl : xs = [] := List.eq_nil_of_length_eq_zero hn
    exact RdS.nil w M sz E
  · refine ⟨_, cap, rfl, hc, hm, .inr ⟨g, 0, rfl, fun i x hx => ?_⟩⟩
    have hi : i < xs.length := (List.getElem?_eq_some_iff.1 hx).1
    have hci : cs[i]? = some (cs[i]'(by omega)) := by simp [h2, hi]
    obtain ⟨g1, g2⟩ := h3 i _ x hci hx
    refine ⟨hM g (by simpa [Value.ownBlock] using h0.symm), _, g2, g1, fun j u hu => ?_⟩
    have hf := flatten_at h4 i j _ u hci hu
    have := h1.cells (g := g) (by simp [Value.ownBlock]) _ _ hf
    have hadd : (⟨g, 0, none⟩ : Addr).add (i * sz + j) = ⟨g, 0 + i * sz + j, none⟩ := by
      unfold Addr.add; split
      · rename_i hz; simp only [Addr.mk.injEq, true_and, and_true]; omega
      · simp only [Addr.mk.injEq, true_and, and_true]; omega
    rwa [hadd] at this
theorem OwnS.kept (h : OwnS w O e sz E v xs) (k : Kept M w w') (hM : ∀ g, O = some g → ¬ M g) (hE : ∀ c x, E c x → E' c x) : OwnS w' O e sz E' v xs := by
  obtain ⟨h0, cs, h1, h2, h3⟩ := h
  refine ⟨h0, cs, ⟨h1.1, ?_⟩, h2, fun i c x hc hx => ⟨(h3 i c x hc hx).1, hE _ _ (h3 i c x hc hx).2⟩⟩
  rcases h1.2 with hn | ⟨g, cap, cur, rfl, hb, hg, rest⟩
  · exact .inl hn
  · exact .inr ⟨g, cap, cur, rfl, hb, k.blk hg (hM g (by simpa [Value.ownBlock] using h0.symm)), rest⟩
theorem OwnS.map (h : OwnS w O e sz E v xs) (hE : ∀ c x, E c x → E' c x) : OwnS w O e sz E' v xs := by
  obtain ⟨h0, cs, h1, h2, h3⟩ := h
  exact ⟨h0, cs, h1, h2, fun i c x hc hx => ⟨(h3 i c x hc hx).1, hE _ _ (h3 i c x hc hx).2⟩⟩
theorem OwnS.nil (w : World) (e : TypeId) (sz : Nat) (E : List Value → α → Prop) : OwnS w none e sz E (.slice none 0 0) [] :=
  ⟨rfl, [], World.ownsRow_nil w 0 e sz, rfl, fun i c x hc => by simp at hc⟩
/-- the new owner is the old one or a new block -/
def NewO (w : World) (O O' : Option Nat) : Prop := O' = O ∨ ∃ g, O' = some g ∧ w.heap.size ≤ g
theorem NewO.refl (w : World) (O : Option Nat) : NewO w O O := .inl rfl
theorem NewO.trans {w w1 : World} {O O1 O2 : Option Nat} (h : NewO w O O1) (h' : NewO w1 O1 O2) (hs : w.heap.size ≤ w1.heap.size) : NewO w O O2 := by
  rcases h' with rfl | ⟨g, rfl, hg⟩
  · exact h
  · exact .inr ⟨g, rfl, by omega⟩

/-- an owned slice made by a call reads as its list -/
theorem OwnS.rdNew (h : OwnS w' O e sz E v xs) (hn : NewO w none O) (hM : ∀ g, w.heap.size ≤ g → ¬ M g) : RdS w' M sz E v xs :=
  h.rd (fun g hg => by
    rcases hn with rfl | ⟨g', hg', h2⟩
    · cases hg
    · rw [hg'] at hg; cases hg; exact hM _ h2)

/-- THE APPEND: 'append(v, sv...)' onto an owned slice. -/
theorem run_append_S {P : Program} (t ty : TypeId) (bytes : Nat) (T : SlTy P t e sz bytes) (h : OwnS w O e sz E v xs) (sv : Value) (hs : RdS w M sz E sv ys)
    (h1 : ∀ c x, E c x → ∀ u ∈ c, u.oneCell' = true) (h63 : xs.length + ys.length ≤ maxLen) (hby : (xs.length + ys.length) * bytes ≤ 140737488355328) :
    ∃ a' cap' w' O', (Builtin.append_ #[t, t] ty #[v, sv]).run P w = .ok (.slice a' (xs.length + ys.length) cap') w' ∧ OwnS w' O' e sz E (.slice a' (xs.length + ys.length) cap') (xs ++ ys) ∧
      Kept (fun k => some k = O) w w' ∧ NewO w O O' := by
  obtain ⟨i, z, t1, t2, t3, t4, t5, t6, t7⟩ := T
  obtain ⟨cs, o1, o2, o3, o4⟩ := h.lens
  have h0 := h.1
  -- what is appended
  obtain ⟨a, cap, rfl, s2, s3, s4⟩ := hs
  have fin : ∀ (v' : Value) (w' : World) (ds : List (List Value)), ds.length = ys.length → (∀ (k : Nat) (c : List Value) (x : α), ds[k]? = some c → ys[k]? = some x → c.length = sz ∧ E c x) →
      w'.ownsRow 0 e sz v' (xs.length + ys.length) (cs.flatten ++ ds.flatten) → w.grownBy w' v.ownBlock →
      ∃ a' cap' O', v' = .slice a' (xs.length + ys.length) cap' ∧ OwnS w' O' e sz E (.slice a' (xs.length + ys.length) cap') (xs ++ ys) ∧ Kept (fun k => some k = O) w w' ∧ v'.ownBlock = O' := by
    intro v' w' ds d1 d2 d3 d4
    have hsh : ∃ a' cap', v' = .slice a' (xs.length + ys.length) cap' := by
      rcases d3.2 with ⟨rfl, hn⟩ | ⟨g, cap, cur, rfl, _⟩
      · exact ⟨none, 0, by rw [hn]⟩
      · exact ⟨_, _, rfl⟩
    obtain ⟨a', cap', rfl⟩ := hsh
    refine ⟨a', cap', _, rfl, ⟨rfl, cs ++ ds, by simpa using d3, by simp [o2, d1], fun k c x hc hx => ?_⟩, ?_, rfl⟩
    · by_cases hk : k < cs.length
      · rw [List.getElem?_append_left hk] at hc
        rw [List.getElem?_append_left (by omega)] at hx
        exact o3 k c x hc hx
      · rw [List.getElem?_append_right (by omega)] at hc
        rw [List.getElem?_append_right (by omega)] at hx
        rw [o2] at hc
        exact d2 _ c x hc hx
    · exact (Kept.refl _ _).grown d4 (fun k hk _ => by rw [← h0]; exact hk.symm)
  have src : (a = none ∧ ys = [] ∧ cap = 0) ∨ ∃ (A : Addr) (ds : List (List Value)), a = some A ∧ ds.length = ys.length ∧ (∀ (k : Nat) (c : List Value) (x : α), ds[k]? = some c → ys[k]? = some x → c.length = sz ∧ E c x) ∧ (∀ j u, ds.flatten[j]? = some u → w.cell? (A.add j) = some u) := by
    rcases s4 with ⟨rfl, rfl⟩ | ⟨b, off, rfl, s5⟩
    · cases a with
      | none => exact .inl ⟨rfl, rfl, rfl⟩
      | some A => exact .inr ⟨A, [], rfl, rfl, fun k c x hc => by simp at hc, fun j u hu => by simp at hu⟩
    right
    have hch : ∀ k (x : α), ys[k]? = some x → ∃ c : List Value, c.length = sz ∧ E c x ∧ ∀ j u, c[j]? = some u → w.cell? ⟨b, off + k * sz + j, none⟩ = some u := fun k x hx => by
      obtain ⟨_, c, g2, g3, g4⟩ := s5 k x hx; exact ⟨c, g3, g2, g4⟩
    obtain ⟨ds, d1, d2⟩ : ∃ ds : List (List Value), ds.length = ys.length ∧ ∀ (k : Nat) (c : List Value) (x : α), ds[k]? = some c → ys[k]? = some x → c.length = sz ∧ E c x ∧ ∀ j u, c[j]? = some u → w.cell? ⟨b, off + k * sz + j, none⟩ = some u := by
      clear h63 hby s2 fin s5
      induction ys generalizing off with
      | nil => exact ⟨[], rfl, fun k c x hc => by simp at hc⟩
      | cons y ys ih =>
        obtain ⟨c0, c1, c2, c3⟩ := hch 0 y (by simp)
        obtain ⟨ds, e1, e2⟩ := ih (off + sz) (fun k x hx => by
          obtain ⟨c, g1, g2, g3⟩ := hch (k + 1) x (by simpa using hx)
          exact ⟨c, g1, g2, fun j u hu => by have := g3 j u hu; rwa [show off + (k + 1) * sz + j = off + sz + k * sz + j by rw [Nat.succ_mul]; omega] at this⟩)
        refine ⟨c0 :: ds, by simp [e1], fun k c x hc hx => ?_⟩
        cases k with
        | zero =>
          simp only [List.getElem?_cons_zero, Option.some.injEq] at hc hx
          subst hc; subst hx
          exact ⟨c1, c2, c3⟩
        | succ k =>
          simp only [List.getElem?_cons_succ] at hc hx
          obtain ⟨g1, g2, g3⟩ := e2 k c x hc hx
          exact ⟨g1, g2, fun j u hu => by have := g3 j u hu; rwa [show off + (k + 1) * sz + j = off + sz + k * sz + j by rw [Nat.succ_mul]; omega]⟩
    have hall : ∀ c ∈ ds, c.length = sz := fun c hc => by
      obtain ⟨k, hk, rfl⟩ := List.getElem_of_mem hc
      exact (d2 k _ (ys[k]'(by omega)) (by simp [hk]) (by simp)).1
    have hcell : ∀ j u, ds.flatten[j]? = some u → w.cell? ((⟨b, off, none⟩ : Addr).add j) = some u := by
      intro j u hu
      have hj : j < ds.flatten.length := (List.getElem?_eq_some_iff.1 hu).1
      rw [flatten_length hall] at hj
      have hq : j / sz < ds.length := Nat.div_lt_of_lt_mul (by rw [Nat.mul_comm]; exact hj)
      have hm := Nat.mod_lt j t7
      have hc : ds[j / sz]? = some (ds[j / sz]) := by simp [hq]
      have hl := hall _ (List.getElem_mem hq)
      obtain ⟨g1, g2, g3⟩ := d2 (j / sz) _ (ys[j / sz]'(by omega)) hc (by simp)
      have hjm : (ds[j / sz])[j % sz]? = some ((ds[j / sz])[j % sz]'(by omega)) := by simp [hl, hm]
      have hff := flatten_at hall (j / sz) (j % sz) _ _ hc hjm
      rw [Nat.mul_comm, Nat.div_add_mod] at hff
      have := g3 _ _ hjm
      rw [hu] at hff
      rw [← Option.some.inj hff] at this
      have hadd : (⟨b, off, none⟩ : Addr).add j = ⟨b, off + j / sz * sz + j % sz, none⟩ := by
        have e1 : j / sz * sz + j % sz = j := by rw [Nat.mul_comm]; exact Nat.div_add_mod j sz
        unfold Addr.add; split
        · rename_i hz; subst hz; simp
        · simp only [Addr.mk.injEq, true_and, and_true]; omega
      rwa [hadd]
    exact ⟨_, ds, rfl, d1, fun k c x hc hx => ⟨(d2 k c x hc hx).1, (d2 k c x hc hx).2.1⟩, hcell⟩
  rcases src with ⟨rfl, rfl, rfl⟩ | ⟨A, ds, rfl, d1, d2, hcell⟩
  · -- nil
    have := run_append_owned_none (P := P) (w := w) (base := 0) t ty e i sz t1 t2 (v := v) (n := xs.length) (xs := cs.flatten) o1
    obtain ⟨v', w', r1, r2, r3⟩ : ∃ v' w', (Builtin.append_ #[t, t] ty #[v, .slice none 0 0]).run P w = .ok v' w' ∧ w'.ownsRow 0 e sz v' xs.length cs.flatten ∧ w.grownBy w' v.ownBlock ∧ v' = v := by
      refine ⟨v, w, this, o1, ⟨rfl, rfl, rfl, Nat.le_refl _, fun _ _ _ => rfl⟩, rfl⟩
    obtain ⟨r3, rfl⟩ := r3
    obtain ⟨a', cap', O', e1, e2, e3, e4⟩ := fin v' w' [] (by simp) (fun k c x hc => by simp at hc) (by simpa using r2) r3
    subst e1
    exact ⟨a', cap', w', O', r1, e2, e3, .inl (e4.symm.trans h0)⟩
  · -- the cells of the source
    have hall : ∀ c ∈ ds, c.length = sz := fun c hc => by
      obtain ⟨k, hk, rfl⟩ := List.getElem_of_mem hc
      exact (d2 k _ (ys[k]'(by omega)) (by simp [hk]) (by simp)).1
    have hone : ∀ u ∈ ds.flatten, u.oneCell' = true := by
      intro u hu
      obtain ⟨c, hc, hu⟩ := List.mem_flatten.1 hu
      obtain ⟨k, hk, rfl⟩ := List.getElem_of_mem hc
      exact h1 _ _ (d2 k _ (ys[k]'(by omega)) (by simp [hk]) (by simp)).2 u hu
    obtain ⟨v', w', r1, r2, r3, r4⟩ := run_append_own (P := P) w 0 t ty e i z sz bytes t1 t2 t3 t4 t5 t6 t7 v xs.length cs.flatten o1 A ys.length cap ds.flatten (by rw [flatten_length hall, d1]) hcell hone h63 hby (Nat.zero_le _)
    obtain ⟨a', cap', O', e1, e2, e3, e4⟩ := fin v' w' ds d1 d2 r2 r3
    subst e1
    refine ⟨a', cap', w', O', r1, e2, e3, ?_⟩
    -- the block: the old one, or a new one
    have det : ∀ {v1 v2 : Value} {w1 w2 : World} {r : Result Value}, r = .ok v1 w1 → r = .ok v2 w2 → v1 = v2 := by
      intro v1 v2 w1 w2 r e1 e2; rw [e1] at e2; cases e2; rfl
    rcases o1.2 with ⟨rfl, hn⟩ | ⟨g, gcap, cur, rfl, _, hg, hc, hm, hcs, htake⟩
    · obtain ⟨v2, w2, q1, q2, _⟩ := run_append_own (P := P) w w.heap.size t ty e i z sz bytes t1 t2 t3 t4 t5 t6 t7 (.slice none 0 0) 0 [] (World.ownsRow_nil w _ e sz) A ys.length cap ds.flatten (by rw [flatten_length hall, d1]) hcell hone (by omega) (by rw [Nat.zero_add]; exact Nat.le_trans (Nat.mul_le_mul_right _ (by omega)) hby) (Nat.le_refl _)
      have := det r1 q1
      rcases q2.2 with ⟨p1, p2⟩ | ⟨g', c', cu', p1, p2, _⟩
      · rw [p1] at this; left; rw [← e4, ← h0, this]
      · rw [p1] at this; right; exact ⟨g', by rw [← e4, this]; rfl, p2⟩
    · by_cases hroom : xs.length + ys.length ≤ gcap
      · have hfit : xs.length * i.size + ds.flatten.length ≤ cur.size := by rw [t4, hcs, flatten_length hall, d1, ← Nat.add_mul]; exact Nat.mul_le_mul_right _ hroom
        have q1 := run_append_room (P := P) w t ty e i t1 t2 g xs.length gcap cur hg A ys.length cap ds.flatten (by rw [flatten_length hall, d1, t4]) hcell hone hroom hfit
        have := det r1 q1
        left
        rw [← e4, ← h0, this]
        rfl
      · have holds : ∀ j u, cs.flatten[j]? = some u → w.cell? ((⟨g, 0, none⟩ : Addr).add j) = some u := o1.cells (g := g) rfl
        obtain ⟨v2, w2, q1, q2, _⟩ := run_append_arg_grows (P := P) w t ty e i z sz bytes t1 t2 t3 t4 t5 t6 t7 ⟨g, 0, none⟩ xs.length gcap cs.flatten (by rw [flatten_length o4, o2]) holds A ys.length cap ds.flatten (by rw [flatten_length hall, d1]) hcell (by omega) h63 hby
        have := det r1 q1
        rcases q2.2 with ⟨p1, p2⟩ | ⟨g', c', cu', p1, p2, _⟩
        · rw [p1] at this; simp only [Value.slice.injEq] at this
          have h00 : xs.length = 0 ∧ ys.length = 0 := by omega
          omega
        · rw [p1] at this; right; exact ⟨g', by rw [← e4, this]; rfl, p2⟩
/-- as an operation -/
theorem wp_append_S {P : Program} {o : Oper} {a : Act} {K : Act → World → Prop} {Q : Exit → Act → World → Prop} (s x : Operand) (t : TypeId)
    (ho : o.op = .call { callee := .builtin .append, args := #[s, x], argTypes := #[t, t] }) (bytes : Nat) (T : SlTy P t e sz bytes)
    (v : Value) (hv : a.eval s = v) (h : OwnS w O e sz E v xs) (sv : Value) (hsv : a.eval x = sv) (hs : RdS w M sz E sv ys)
    (h1 : ∀ c x, E c x → ∀ u ∈ c, u.oneCell' = true) (n m : Nat) (hn : xs.length = n) (hm : ys.length = m) (h63 : n + m ≤ maxLen) (hby : (n + m) * bytes ≤ 140737488355328)
    (hK : ∀ a' cap' w' O', OwnS w' O' e sz E (.slice a' (n + m) cap') (xs ++ ys) → Kept (fun k => some k = O) w w' → NewO w O O' → K (a.put o.dst (.slice a' (n + m) cap')) w') : o.wp P a w K Q := by
  subst hn; subst hm
  obtain ⟨a', cap', w', O', hr, h2, h3, h4⟩ := run_append_S (P := P) t o.type bytes T h sv hs h1 h63 hby
  unfold Oper.wp execOp
  simp only [ho, resolve, invoke, builtin, Sem.run_bind, Sem.run_pure, Result.andThen_ok, List.map_toArray, List.map_cons, List.map_nil, hv, hsv, hr]
  exact hK a' cap' w' O' h2 h3 h4
/-- in a list of operations -/
theorem wpList_append_S {P : Program} {ops : Array Oper} {rest : List Oper} {o : Oper} {a : Act} {Q : Exit → Act → World → Prop} (hgd : o.guard = none) (s x : Operand) (t : TypeId)
    (ho : o.op = .call { callee := .builtin .append, args := #[s, x], argTypes := #[t, t] }) (bytes : Nat) (T : SlTy P t e sz bytes)
    (v : Value) (hv : a.eval s = v) (h : OwnS w O e sz E v xs) (sv : Value) (hsv : a.eval x = sv) (hs : RdS w M sz E sv ys)
    (h1 : ∀ c x, E c x → ∀ u ∈ c, u.oneCell' = true) (n m : Nat) (hn : xs.length = n) (hm : ys.length = m) (h63 : n + m ≤ maxLen) (hby : (n + m) * bytes ≤ 140737488355328)
    (hK : ∀ a' cap' w' O', OwnS w' O' e sz E (.slice a' (n + m) cap') (xs ++ ys) → Kept (fun k => some k = O) w w' → NewO w O O' → wpList P ops Q rest (a.put o.dst (.slice a' (n + m) cap')) w') : wpList P ops Q (o :: rest) a w :=
  wpList_plain hgd fun _ hKK => wp_append_S s x t ho bytes T v hv h sv hsv hs h1 n m hn hm h63 hby fun a' cap' w' O' p q r => hKK _ _ (hK a' cap' w' O' p q r)
/-- in a region that draws its order -/
theorem step_append_S {P : Program} {ops : Array Oper} {o : Oper} {a : Act} {K : Act → World → Prop} {Q : Exit → Act → World → Prop} {F : Prop} (hg : o.guard = none) (s x : Operand) (t : TypeId)
    (ho : o.op = .call { callee := .builtin .append, args := #[s, x], argTypes := #[t, t] }) (bytes : Nat) (T : SlTy P t e sz bytes)
    (v : Value) (hv : a.eval s = v) (h : OwnS w O e sz E v xs) (sv : Value) (hsv : a.eval x = sv) (hs : RdS w M sz E sv ys)
    (h1 : ∀ c x, E c x → ∀ u ∈ c, u.oneCell' = true) (n m : Nat) (hn : xs.length = n) (hm : ys.length = m) (h63 : n + m ≤ maxLen) (hby : (n + m) * bytes ≤ 140737488355328)
    (hK : ∀ a' cap' w' O', OwnS w' O' e sz E (.slice a' (n + m) cap') (xs ++ ys) → Kept (fun k => some k = O) w w' → NewO w O O' → K (a.put o.dst (.slice a' (n + m) cap')) w') :
    if Region.wanted o (yielded ops a.tmps) = true then Oper.wp P o a w K Q else F := by
  rw [if_pos (by simp [Region.wanted, hg])]
  exact wp_append_S s x t ho bytes T v hv h sv hsv hs h1 n m hn hm h63 hby hK
end
/-- a slice of one element that was just made -/
theorem rd_one {α : Type} {w : World} {M : Nat → Prop} {sz : Nat} {E : List Value → α → Prop} {b : Nat} {cs : Array Value} {e : TypeId} {f : Nat × Nat} {x : α}
    (hb : w.heap[b]? = some (.cells cs e f)) (hM : ¬ M b) (hE : E cs.toList x) (hs : cs.size = sz) : RdS w M sz E (.slice (some ⟨b, 0, none⟩) 1 1) [x] := by
  refine ⟨_, 1, rfl, Nat.le_refl _, by unfold maxLen; omega, .inr ⟨b, 0, rfl, fun i y hy => ?_⟩⟩
  cases i with
  | zero =>
    simp only [List.getElem?_cons_zero, Option.some.injEq] at hy
    subst hy
    refine ⟨hM, _, hE, by simpa using hs, fun j u hu => ?_⟩
    simp only [Nat.zero_mul, Nat.zero_add]
    simp [World.cell?, hb]
    simpa using hu
  | succ i => simp at hy
end Go.Proofs.Ytghgegghlefclaa

/- More general words. No program. -/
namespace Go.Proofs.Ytghgegghlefclaa
open Go.RowKit
@[go_sem] theorem setCell_drewN (w : World) (n : Nat) (a : Addr) (v : Value) : (w.drewN n).setCell a v = (w.setCell a v).drewN n := rfl
@[go_sem] theorem alloc_drewN (w : World) (n : Nat) (o : Obj) : (w.drewN n).alloc o = (w.alloc o).drewN n := rfl
@[go_sem] theorem putB_drewN (w : World) (n b : Nat) (c : Array Value) (e : TypeId) : putB (w.drewN n) b c e = (putB w b c e).drewN n := rfl

/-- make([]T, n) at one-cell elements, as a fact for the walk -/
theorem make_fact {P : Program} {t e : TypeId} {bytes : Nat} (T : SlTy P t e 1 bytes) (z : Value) (hz : (P.info? e).map (·.zero) = some (some z)) (hz1 : z.cells = #[z]) (n : Nat) (hn : n ≤ 1000000) (hb : bytes ≤ 1000) (wx : World) :
    (Instr.makeSlice t (.int .i64 n) (.int .i64 n)).run P wx = .ok (.slice (some ⟨wx.heap.size, 0, none⟩) n n) (wx.alloc (.cells (List.replicate n z).toArray e)) := by
  obtain ⟨i, z', t1, t2, t3, t4, t5, t6, t7⟩ := T
  rw [t2] at hz
  simp only [Option.map_some, Option.some.injEq] at hz
  rw [t3] at hz
  cases hz
  have hb' : (i.bytes : Int) * (n : Int) ≤ 281474976710656 := by
    rw [← Int.natCast_mul]
    have := Nat.mul_le_mul hb hn
    rw [t5]
    omega
  have hr := run_make (P := P) wx t e i z t1 t2 t3 .i64 .i64 n n (by omega) (Int.le_refl _) hb' (by omega)
  rw [hr]
  have hc : madeCells z.cells (n * i.size) = (List.replicate n z).toArray := by
    rw [t4, Nat.mul_one, hz1]
    apply Array.toList_inj.1
    rw [toList_madeCells_one]
  simp only [Int.toNat_natCast, hc]
/-- a block of numbers, written out, read as a slice -/
theorem own_list {α : Type} {w : World} {g : Nat} {e : TypeId} {f : α → Value} {E : List Value → α → Prop} (hE : ∀ x, E [f x] x) {xs : List α} (h : w.heap[g]? = some (.cells (xs.map f).toArray e (0, 0))) (hm : xs.length ≤ maxLen) :
    OwnS w (some g) e 1 E (.slice (some ⟨g, 0, none⟩) xs.length xs.length) xs := by
  refine ⟨rfl, xs.map (fun x => [f x]), ⟨?_, .inr ⟨g, xs.length, _, rfl, Nat.zero_le _, h, Nat.le_refl _, hm, by simp, ?_⟩⟩, by simp, fun i c x hc hx => ?_⟩
  · rw [flatten_length (sz := 1) (by simp)]; simp
  · have : (xs.map (fun x => [f x])).flatten = xs.map f := by
      clear h hm; induction xs with
      | nil => rfl
      | cons x xs ih => simp [ih]
    rw [this]; simp only [Nat.mul_one]; rw [List.take_of_length_le (by simp)]
  · rw [List.getElem?_map, hx] at hc
    simp only [Option.map_some, Option.some.injEq] at hc
    subst hc
    exact ⟨rfl, hE x⟩
theorem rd_list {α : Type} {w : World} {M : Nat → Prop} {g : Nat} {e : TypeId} {f : α → Value} {E : List Value → α → Prop} {xs : List α} (hE : ∀ x, E [f x] x) (h : w.heap[g]? = some (.cells (xs.map f).toArray e (0, 0))) (n : Nat) (hl : xs.length = n) (hm : n ≤ maxLen) (hM : ¬ M g) :
    RdS w M 1 E (.slice (some ⟨g, 0, none⟩) n n) xs := by
  subst hl
  exact (own_list hE h hm).rd (fun g' hg => by cases hg; exact hM)
theorem set_list {α : Type} (f : α → Value) (xs : List α) (i : Nat) (x : α) : ((xs.map f).toArray).setIfInBounds i (f x) = ((xs.set i x).map f).toArray := by
  simp [List.map_set]
end Go.Proofs.Ytghgegghlefclaa

/- Owned slices of one-cell elements: the block written out; stores. No program. -/
namespace Go.Proofs.Ytghgegghlefclaa
open Go.RowKit
section
variable {α : Type} {w : World} {O : Option Nat} {e : TypeId} {E : List Value → α → Prop} {v : Value} {xs : List α} {f : α → Value}
theorem flat_one (cs : List (List Value)) (xs : List α) (h2 : cs.length = xs.length) (h3 : ∀ (i : Nat) (c : List Value) (x : α), cs[i]? = some c → xs[i]? = some x → c = [f x]) : cs.flatten = xs.map f := by
  induction cs generalizing xs with
  | nil => cases xs with
    | nil => rfl
    | cons x xs => simp at h2
  | cons c cs ih => cases xs with
    | nil => simp at h2
    | cons x xs =>
      have h0 := h3 0 c x rfl rfl
      have := ih xs (by simpa using h2) (fun i c x hc hx => h3 (i + 1) c x (by simpa using hc) (by simpa using hx))
      simp [h0, this]
/-- an owned slice with an element: its block, written out -/
theorem OwnS.open1 (h : OwnS w O e 1 E v xs) (hE : ∀ c x, E c x → c = [f x]) (hn : 0 < xs.length) :
    ∃ g cap cur, v = .slice (some ⟨g, 0, none⟩) xs.length cap ∧ O = some g ∧ w.heap[g]? = some (.cells cur e (0, 0)) ∧ xs.length ≤ cap ∧ cap ≤ maxLen ∧ cur.size = cap ∧ cur.toList.take xs.length = xs.map f := by
  obtain ⟨h0, cs, h1, h2, h3⟩ := h
  have hf := flat_one cs xs h2 (fun i c x hc hx => hE c x (h3 i c x hc hx).2)
  rw [hf] at h1
  rcases h1.2 with ⟨rfl, hz⟩ | ⟨g, cap, cur, rfl, _, hg, hc, hm, hs, ht⟩
  · omega
  · exact ⟨g, cap, cur, rfl, by simpa [Value.ownBlock] using h0.symm, hg, hc, hm, by simpa using hs, by simpa using ht⟩
theorem OwnS.close1 {g cap : Nat} {cur : Array Value} (hE : ∀ x, E [f x] x) (hg : w.heap[g]? = some (.cells cur e (0, 0))) (n : Nat) (hl : xs.length = n) (hc : n ≤ cap) (hm : cap ≤ maxLen) (hs : cur.size = cap) (ht : cur.toList.take n = xs.map f) :
    OwnS w (some g) e 1 E (.slice (some ⟨g, 0, none⟩) n cap) xs := by
  subst hl
  have hf : (xs.map (fun x => [f x])).flatten = xs.map f := flat_one _ xs (by simp) (fun i c x hc hx => by
    rw [List.getElem?_map, hx] at hc; simp at hc; exact hc.symm)
  refine ⟨rfl, xs.map (fun x => [f x]), ⟨?_, .inr ⟨g, cap, cur, rfl, Nat.zero_le _, hg, hc, hm, by simpa using hs, ?_⟩⟩, by simp, fun i c x hc hx => ?_⟩
  · rw [hf]; simp
  · rw [hf]; simpa using ht
  · rw [List.getElem?_map, hx] at hc
    simp only [Option.map_some, Option.some.injEq] at hc
    subst hc
    exact ⟨rfl, hE x⟩
theorem take_at {cur : Array Value} {xs : List α} (ht : cur.toList.take xs.length = xs.map f) {i : Nat} {x : α} (hx : xs[i]? = some x) : cur[i]? = some (f x) := by
  have hi := (List.getElem?_eq_some_iff.1 hx).1
  have : (cur.toList.take xs.length)[i]? = some (f x) := by rw [ht, List.getElem?_map, hx]; rfl
  rw [List.getElem?_take, if_pos hi] at this
  simpa using this
theorem take_set {cur : Array Value} {xs : List α} (ht : cur.toList.take xs.length = xs.map f) (i : Nat) (x : α) : (cur.setIfInBounds i (f x)).toList.take xs.length = (xs.set i x).map f := by
  rw [Array.toList_setIfInBounds, List.take_set, ht, List.map_set]
theorem expose2' {w : World} {b1 b2 : Nat} {c1 c2 : Array Value} {e1 e2 : TypeId} (h1 : w.heap[b1]? = some (.cells c1 e1 (0, 0))) (h2 : w.heap[b2]? = some (.cells c2 e2 (0, 0))) : w = putB (putB w b1 c1 e1) b2 c2 e2 := by
  rw [← putB_self h1]; exact putB_self h2
end
end Go.Proofs.Ytghgegghlefclaa
