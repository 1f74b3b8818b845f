/- The law's memory: its world, what was seen confirmed, the leaders that were seen. -/
import Derived.Test.YtgohploghbimlaaDoorKTG
import Derived.Test.YtgohploghbimlaaDoorKKI
import Derived.Maps.OwnSet
set_option linter.unusedVariables false
set_option linter.unusedSimpArgs false
set_option linter.unusedSectionVars false
namespace Go.Proofs.YtgohploghbimlaaDoor
open Go.RowKit Go.Maps
set_option maxHeartbeats 1000000

def FB (Oc Ow : Option Nat) (bm : Nat) : Nat → Prop := fun k => some k = Oc ∨ some k = Ow ∨ k = bm
/-- the map of leaders reads as m -/
def MapIs (D : DataW Unit) (m : Int → Option Int) : Prop := IsMap D ∧ ∀ e, (Maps.has D (.int .i64 e) = (m e).isSome) ∧ ∀ c, m e = some c → D.atKey (.int .i64 e) (.lit (.int .i64 0)) = .lit (.int .i64 c)
theorem MapIs.nil : MapIs (.map []) (fun _ => none) := ⟨isMap_empty, fun e => ⟨rfl, fun c h => by cases h⟩⟩
theorem MapIs.put {D : DataW Unit} {m : Int → Option Int} (h : MapIs D m) (e c : Int) : MapIs (D.put (.int .i64 e) (.lit (.int .i64 c))) (fun x => if x = e then some c else m x) := by
  refine ⟨h.1.put _ _, fun x => ?_⟩
  by_cases hx : x = e
  · subst hx
    simp only [if_pos]
    exact ⟨has_put_same h.1 (show WideAt.IsKeyLit (.int .i64 x) from trivial) _, fun c' hc => by cases hc; exact atKey_put_same h.1 (show WideAt.IsKeyLit (.int .i64 x) from trivial) _ _⟩
  · simp only [if_neg hx]
    have hne : (Lit.int .i64 x) ≠ .int .i64 e := fun hh => hx (by injection hh)
    exact ⟨(has_put_other hne _).trans (h.2 x).1, fun c' hc => (atKey_put_other hne _ _).trans ((h.2 x).2 c' hc)⟩
abbrev Own42 (w : World) (bm nm : Nat) (D : DataW Unit) : Prop := w.ownsMap Tryd.prog 3 (plainElem Tryd.prog 3) bm nm D
theorem own42_kept {w w' : World} {bm nm : Nat} {D : DataW Unit} {M : Nat → Prop} (h : Own42 w bm nm D) (k : Kept M w w') (hm : ¬ M bm) : Own42 w' bm nm D := by
  have hlt := h.lt
  obtain ⟨es, clock, hb, F, hs, hD⟩ := h
  exact ⟨es, clock, (k.block bm hlt hm).trans hb, F, hs, hD⟩
theorem kept_grown {w w' : World} {b : Nat} (h : w.grownBy w' (some b)) : Kept (fun k => k = b) w w' := by
  obtain ⟨h1, h2, h3, h4, h5⟩ := h
  exact ⟨h1, h2, h3, h4, fun i hi hne => h5 i hi (fun e => hne (by cases e; rfl))⟩

structure Mem (n : Nat) (w0 w : World) (W : Nat) (s : WS) (Oc Ow : Option Nat) (bm nm : Nat) (v9 v10 : Value) (cf : List Item) (wh : List Int) (D : DataW Unit) : Prop where
  san : SanB (FB Oc Ow bm) n w0 w W s
  cf : OwnS w Oc 45 2 EItem v9 cf
  wh : OwnS w Ow 3 1 EInt v10 wh
  map : Own42 w bm nm D
  new : ∀ k, FB Oc Ow bm k → w0.heap.size ≤ k
  c_w : ∀ g, Oc = some g → Ow ≠ some g ∧ g ≠ bm
  w_m : Ow ≠ some bm
section
variable {n bm nm : Nat} {w0 w w' : World} {W : Nat} {s s' : WS} {Oc Ow O1 : Option Nat} {v9 v10 v : Value} {cf : List Item} {wh : List Int} {D D' : DataW Unit}
theorem Mem.lt (h : Mem n w0 w W s Oc Ow bm nm v9 v10 cf wh D) : ∀ k, FB Oc Ow bm k → k < w.heap.size := by
  rintro k (hk | hk | rfl)
  · exact h.cf.lt _ hk.symm
  · exact h.wh.lt _ hk.symm
  · exact h.map.lt
theorem Mem.kept (h : Mem n w0 w W s Oc Ow bm nm v9 v10 cf wh D) (k : Kept NoM w w') : Mem n w0 w' W s Oc Ow bm nm v9 v10 cf wh D :=
  ⟨h.san.kept k, h.cf.kept k (fun _ _ x => x) (fun _ _ x => x), h.wh.kept k (fun _ _ x => x) (fun _ _ x => x), own42_kept h.map k (fun x => x), h.new, h.c_w, h.w_m⟩
theorem Mem.played (h : Mem n w0 w W s Oc Ow bm nm v9 v10 cf wh D) (hs : SanB (FB Oc Ow bm) n w0 w' W s') (k : Kept (fun i => ¬ FB Oc Ow bm i) w w') : Mem n w0 w' W s' Oc Ow bm nm v9 v10 cf wh D :=
  ⟨hs, h.cf.kept k (fun g hg hn => hn (.inl hg.symm)) (fun _ _ x => x), h.wh.kept k (fun g hg hn => hn (.inr (.inl hg.symm))) (fun _ _ x => x), own42_kept h.map k (fun hn => hn (.inr (.inr rfl))), h.new, h.c_w, h.w_m⟩
theorem Mem.addCf {cf' : List Item} (h : Mem n w0 w W s Oc Ow bm nm v9 v10 cf wh D) (own : OwnS w' O1 45 2 EItem v cf') (k : Kept (fun i => some i = Oc) w w') (N : NewO w Oc O1) : Mem n w0 w' W s O1 Ow bm nm v v10 cf' wh D := by
  have hb := h.san.base.size
  have hn1 : ∀ i, FB O1 Ow bm i → FB Oc Ow bm i ∨ w.heap.size ≤ i := by
    rintro i (hi | hi | hi)
    · rcases N with rfl | ⟨g, rfl, hg⟩
      · exact .inl (.inl hi)
      · cases hi; exact .inr hg
    · exact .inl (.inr (.inl hi))
    · exact .inl (.inr (.inr hi))
  have hw := h.wh.lt
  have hm := h.map.lt
  have hlt : ∀ i, FB O1 Ow bm i → i < w'.heap.size := by
    have := k.size
    rintro i (hi | hi | rfl)
    · exact own.lt _ hi.symm
    · have := hw _ hi.symm; omega
    · omega
  refine ⟨h.san.write (k.mono fun _ _ hh => .inl hh) h.new hn1 hlt, own, h.wh.kept k (fun g hg hh => (h.c_w g hh.symm).1 hg) (fun _ _ x => x), own42_kept h.map k (fun hh => (h.c_w bm hh.symm).2 rfl), fun i hi => ?_, fun g hg => ?_, h.w_m⟩
  · rcases hn1 i hi with hh | hh
    · exact h.new i hh
    · omega
  · rcases N with rfl | ⟨g', rfl, hg'⟩
    · exact h.c_w g hg
    · cases hg
      exact ⟨fun hh => by have := hw _ hh; omega, by omega⟩
theorem Mem.addWh {wh' : List Int} (h : Mem n w0 w W s Oc Ow bm nm v9 v10 cf wh D) (own : OwnS w' O1 3 1 EInt v wh') (k : Kept (fun i => some i = Ow) w w') (N : NewO w Ow O1) : Mem n w0 w' W s Oc O1 bm nm v9 v cf wh' D := by
  have hb := h.san.base.size
  have hn1 : ∀ i, FB Oc O1 bm i → FB Oc Ow bm i ∨ w.heap.size ≤ i := by
    rintro i (hi | hi | hi)
    · exact .inl (.inl hi)
    · rcases N with rfl | ⟨g, rfl, hg⟩
      · exact .inl (.inr (.inl hi))
      · cases hi; exact .inr hg
    · exact .inl (.inr (.inr hi))
  have hc := h.cf.lt
  have hm := h.map.lt
  have hlt : ∀ i, FB Oc O1 bm i → i < w'.heap.size := by
    have := k.size
    rintro i (hi | hi | rfl)
    · have := hc _ hi.symm; omega
    · exact own.lt _ hi.symm
    · omega
  refine ⟨h.san.write (k.mono fun _ _ hh => .inr (.inl hh)) h.new hn1 hlt, h.cf.kept k (fun g hg hh => (h.c_w g hg).1 hh.symm) (fun _ _ x => x), own, own42_kept h.map k (fun hh => h.w_m hh.symm), fun i hi => ?_, fun g hg => ⟨?_, (h.c_w g hg).2⟩, ?_⟩
  · rcases hn1 i hi with hh | hh
    · exact h.new i hh
    · omega
  · rcases N with rfl | ⟨g', rfl, hg'⟩
    · exact (h.c_w g hg).1
    · intro hh; cases hh; have := hc _ hg; omega
  · rcases N with rfl | ⟨g', rfl, hg'⟩
    · exact h.w_m
    · intro hh; cases hh; omega
theorem Mem.setMap {nm' : Nat} (h : Mem n w0 w W s Oc Ow bm nm v9 v10 cf wh D) (hm : Own42 w' bm nm' D') (k : Kept (fun i => i = bm) w w') : Mem n w0 w' W s Oc Ow bm nm' v9 v10 cf wh D' := by
  refine ⟨h.san.write (k.mono fun _ _ hh => .inr (.inr hh)) h.new (fun i hi => .inl hi) (fun i hi => Nat.lt_of_lt_of_le (h.lt i hi) k.size), h.cf.kept k (fun g hg hh => (h.c_w g hg).2 hh) (fun _ _ x => x), h.wh.kept k (fun g hg hh => h.w_m (by rw [hg, hh])) (fun _ _ x => x), hm, h.new, h.c_w, h.w_m⟩
/-- at the law's start -/
theorem Mem.start (hs : @San ⟨NoM⟩ n w0 w W s) (ow : OwnS w' Ow 3 1 EInt v10 []) (how : ∀ g, Ow = some g → w.heap.size ≤ g ∧ g ≠ bm) (hm : Own42 w' bm 0 (.map [])) (k : Kept NoM w w') (hb : w.heap.size ≤ bm) : Mem n w0 w' W s none Ow bm 0 (.slice none 0 0) v10 [] [] (.map []) := by
  have hz := (@San.base ⟨NoM⟩ _ _ _ _ _ hs).size
  have hge : ∀ i, FB none Ow bm i → w.heap.size ≤ i := by
    rintro i (hi | hi | rfl)
    · cases hi
    · exact (how i hi.symm).1
    · exact hb
  refine ⟨(San.beside hs).more k (fun k h => h.elim) (fun i hi => .inr (hge i hi)) (fun i hi => ?_), OwnS.nil _ _ _ _, ow, hm, fun i hi => Nat.le_trans hz (hge i hi), by simp, fun h => (how bm h).2 rfl⟩
  rcases hi with hi | hi | rfl
  · cases hi
  · exact ow.lt _ hi.symm
  · exact hm.lt
theorem fb_cf (N : NewO w Oc O1) : ∀ i, i < w.heap.size → FB O1 Ow bm i → FB Oc Ow bm i := by
  rintro i hi (h | h | h)
  · rcases N with rfl | ⟨g, rfl, hg⟩
    · exact .inl h
    · cases h; omega
  · exact .inr (.inl h)
  · exact .inr (.inr h)
theorem fb_wh (N : NewO w Ow O1) : ∀ i, i < w.heap.size → FB Oc O1 bm i → FB Oc Ow bm i := by
  rintro i hi (h | h | h)
  · exact .inl h
  · rcases N with rfl | ⟨g, rfl, hg⟩
    · exact .inr (.inl h)
    · cases h; omega
  · exact .inr (.inr h)
/-- a copy of a replica, and two lists, outside what the law writes -/
def Side (w : World) (F : Nat → Prop) (bq : Nat) (C : Array Value) (v : Value) (xs : List Item) (v' : Value) (ys : List Item) : Prop :=
  w.heap[bq]? = some (.cells C 32 (0, 0)) ∧ ¬ F bq ∧ RdItems w F v xs ∧ RdItems w F v' ys
theorem Side.step {F F' : Nat → Prop} {bq : Nat} {C : Array Value} {v' : Value} {xs ys : List Item} (h : Side w F bq C v xs v' ys) (k : Kept F w w') (hm : ∀ i, i < w.heap.size → F' i → F i) : Side w' F' bq C v xs v' ys := by
  obtain ⟨h1, h2, h3, h4⟩ := h
  exact ⟨k.blk h1 h2, fun hf => h2 (hm bq (lt_of_block h1) hf), h3.step k hm, h4.step k hm⟩
theorem Side.kept {F : Nat → Prop} {bq : Nat} {C : Array Value} {v' : Value} {xs ys : List Item} (h : Side w F bq C v xs v' ys) (k : Kept NoM w w') : Side w' F bq C v xs v' ys := h.step k.of_no (fun _ _ x => x)
def lenV : Value → Nat
  | .slice _ n _ => n
  | _ => 0
end
end Go.Proofs.YtgohploghbimlaaDoor
