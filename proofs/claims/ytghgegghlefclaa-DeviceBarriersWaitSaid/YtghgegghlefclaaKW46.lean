/- The law DeviceBarriersWait: one round of its loop, told. -/
import Derived.Test.YtghgegghlefclaaKF3
import Derived.Test.YtghgegghlefclaaKW44
import Derived.Test.YtghgegghlefclaaKW42
import Derived.Test.YtghgegghlefclaaKW20
set_option linter.unusedVariables false
set_option linter.unusedSimpArgs false
set_option linter.unusedSectionVars false
namespace Go.Proofs.Ytghgegghlefclaa
open Go.RowKit
set_option maxHeartbeats 4000000
set_option maxRecDepth 8000
/-- what may change in the loop -/
def MY (D : Nat) (P Q : Option Nat) : Nat → Prop := fun i => i = D ∨ some i = P ∨ some i = Q
def akOf (y : Wr) : Ak := ⟨y.ep, y.seq, 0⟩
/-- a device that is honest and has room, and what was done with it -/
structure Went (d f : Dev) (ol : List Wr) (al : List Ak) : Prop where
  room : f.room = d.room
  good : Roomy d → d.early = false → Roomy f ∧ f.early = false ∧ al = ol.map akOf ∧ f.table = ol.foldl (fun t y => putT t d.room y) d.table
theorem Went.step {d f : Dev} {ol : List Wr} {al : List Ak} (h : Went d f ol al) {kn : Nat} {y : Wr} (hk : f.queue[kn]? = some y) : Went d (doW f kn y) (ol ++ [y]) (al ++ doA f y) := by
  refine ⟨h.room, fun h1 h2 => ?_⟩
  obtain ⟨g1, g2, g3, g4⟩ := h.good h1 h2
  obtain ⟨s1, s2, s3, _⟩ := g1.step hk
  have hp : putT f.table f.room y = putU f.table y := by
    obtain ⟨hw, _, _⟩ := g1.rd.q y (List.mem_of_getElem? hk)
    have hr := g1.room
    rw [nP_erase hk] at hr
    exact (put_room (formed_kind hw).1 hr).2.1
  refine ⟨s1, g2, ?_, ?_⟩
  · have he : earlyW f y = false := by unfold earlyW; rw [g2]; rfl
    unfold doA
    rw [he, s2, g3, List.map_append]; rfl
  · rw [s3, List.foldl_append, ← hp, g4, h.room]; rfl
theorem Went.bel {d f : Dev} {ol : List Wr} {al : List Ak} (h : Went d f ol al) (h1 : Roomy d) (h2 : d.early = false) : al.length = ol.length ∧ belT d.room al d.table ol = f.table := by
  obtain ⟨_, _, g3, g4⟩ := h.good h1 h2
  refine ⟨by rw [g3]; simp, ?_⟩
  rw [bel_all, g4]
  intro y hy
  rw [g3]
  exact List.mem_map.2 ⟨y, hy, rfl⟩
/-- a barrier that can be done is the first, and is acknowledged -/
theorem bar_ack {f : Dev} {kn : Nat} {y : Wr} (hk : f.queue[kn]? = some y) (hr : rdyB f.queue kn = true) (h3 : y.kind = 3) : kn = 0 ∧ doA f y = [⟨y.ep, y.seq, 0⟩] := by
  refine ⟨of_decide_eq_true ((rdyB_bar hk h3).symm.trans hr), ?_⟩
  have he : earlyW f y = false := by unfold earlyW; rw [decide_eq_false (fun h => h h3), Bool.and_false]
  have hp : isPut f y = true := by unfold isPut; rw [(put_k3 (t := f.table) (room := f.room) h3).2, Bool.or_true]
  unfold doA
  rw [he, hp]; rfl
theorem app6 {n : Nat} {o : Obj} {u w6 : World} {P P6 : Option Nat}
    (hk6 : Kept (fun k => some k = P) ((u.alloc o).drewN n) w6) (hn6 : NewO ((u.alloc o).drewN n) P P6) :
    Kept (fun k => some k = P) u w6 ∧ ∀ g, P6 = some g → P = some g ∨ u.heap.size ≤ g := by
  have k0 : Kept (fun k => some k = P) u ((u.alloc o).drewN n) := ((Kept.refl _ u).alloc o).drewN n
  refine ⟨k0.trans hk6, fun g hg => ?_⟩
  rcases hn6 with e | ⟨g', e, h⟩
  · exact .inl (e ▸ hg)
  · have hs := k0.size
    rw [hg] at e
    cases e
    exact .inr (Nat.le_trans hs h)
theorem went_next {D BS : Nat} {d f : Dev} {ta qa da la va ya ua xa oa ka ta5 qa5 da5 la5 : Option Addr} {tc qc dc lc uc vc xc yc oc kc on kn0 tc5 qc5 dc5 lc5 : Nat} {w u5 w6 w7 : World} {P Q P6 Q7 : Option Nat} {kn j : Nat} {y : Wr} {ol : List Wr} {al : List Ak} {n6 n7 : Nat} {a6 a7 : Option Addr} {cap6 cap7 : Nat}
    (HQ : f.queue[kn]? = some y) (hD : w.heap.size = D) (hDB : D < BS)
    (GN : Hid (f.table.length ≤ 40 + j ∧ f.done.length ≤ 100 + j ∧ f.lost = d.lost ∧ (∀ r ∈ f.table, r ∈ d.table ∨ ∃ y ∈ d.queue, r = y.rule) ∧ (∀ y ∈ f.queue, y ∈ d.queue)))
    (GRD : Hid (RD f)) (GWT : Hid (Went d f ol al))
    (GO : Hid (OwnS u5 P 41 26 EWr (.slice oa on oc) ol)) (GA : Hid (OwnS u5 Q 60 3 EAk (.slice ka kn0 kc) al))
    (GP : Hid (∀ g, P = some g → BS < g ∧ Q ≠ some g)) (GQ : Hid (∀ g, Q = some g → BS < g))
    (GD : Hid (u5.heap[D]? = some (.cells (devC f ua uc va vc xa xc ya yc) 27 (0, 0)))) (GS : Hid (u5.heap[BS]? = some (.cells (devC d ta tc qa qc da dc la lc) 27 (0, 0)))) (GW : Hid (Kept NoM w u5)) (RN5 : Hid (DevR u5 (MY D P Q) (doW f kn y) ta5 tc5 qa5 qc5 da5 dc5 la5 lc5))
    (K6 : Kept (fun k => some k = P) u5 w6) (hP6 : ∀ g, P6 = some g → P = some g ∨ u5.heap.size ≤ g)
    (OW6 : OwnS w6 P6 41 26 EWr (.slice a6 n6 cap6) (ol ++ [y]))
    (hown7 : OwnS w7 Q7 60 3 EAk (.slice a7 n7 cap7) (al ++ doA f y)) (hk7 : Kept (fun k => some k = Q) w6 w7) (hn7 : NewO w6 Q Q7) (c7 : Array Value)
    : Hid ((putB w7 D c7 27).heap[D]? = some (.cells c7 27 (0, 0)))
    ∧ Hid ((putB w7 D c7 27).heap[BS]? = some (.cells (devC d ta tc qa qc da dc la lc) 27 (0, 0)))
    ∧ Hid (DevR (putB w7 D c7 27) (MY D P6 Q7) (doW f kn y) ta5 tc5 qa5 qc5 da5 dc5 la5 lc5)
    ∧ Hid (RD (doW f kn y)) ∧ Hid (Went d (doW f kn y) (ol ++ [y]) (al ++ doA f y))
    ∧ Hid ((doW f kn y).table.length ≤ 40 + (j + 1) ∧ (doW f kn y).done.length ≤ 100 + (j + 1) ∧ (doW f kn y).lost = d.lost ∧ (∀ r ∈ (doW f kn y).table, r ∈ d.table ∨ ∃ y ∈ d.queue, r = y.rule) ∧ (∀ z ∈ (doW f kn y).queue, z ∈ d.queue))
    ∧ Hid (OwnS (putB w7 D c7 27) P6 41 26 EWr (.slice a6 n6 cap6) (ol ++ [y]))
    ∧ Hid (OwnS (putB w7 D c7 27) Q7 60 3 EAk (.slice a7 n7 cap7) (al ++ doA f y))
    ∧ Hid (∀ g, P6 = some g → BS < g ∧ Q7 ≠ some g) ∧ Hid (∀ g, Q7 = some g → BS < g)
    ∧ Hid (Kept NoM w (putB w7 D c7 27)) := by
  have hQ := GQ.out
  have hP := GP.out
  have lQ := GA.out.lt
  have lP := GO.out.lt
  have lD := lt_of_block GD.out
  have lB := lt_of_block GS.out
  have s6 := K6.size
  have s7 := hk7.size
  have hq7 : ∀ g, Q7 = some g → Q = some g ∨ w6.heap.size ≤ g := by
    intro g hg
    rcases hn7 with e | ⟨g', e, h⟩
    · exact .inl (e ▸ hg)
    · rw [hg] at e; cases e; exact .inr h
  have l6 := OW6.lt
  have b6 : ∀ g, P6 = some g → BS < g := fun g hg => by
    rcases hP6 g hg with h | h
    · exact (hP g h).1
    · omega
  have b7 : ∀ g, Q7 = some g → BS < g := fun g hg => by
    rcases hq7 g hg with h | h
    · exact hQ g h
    · omega
  have c6 : ∀ g, P6 = some g → Q ≠ some g := fun g hg e => by
    rcases hP6 g hg with h | h
    · exact (hP g h).2 e
    · have := lQ g e; omega
  have kk : Kept (MY D P Q) u5 (putB w7 D c7 27) :=
    ((K6.mono (M' := MY D P Q) (fun i _ e => .inr (.inl e))).trans (hk7.mono (fun i _ e => .inr (.inr e)))).putM (.inl rfl) _ _
  have h7D : w7.heap[D]? = some (.cells (devC f ua uc va vc xa xc ya yc) 27 (0, 0)) :=
    hk7.blk (K6.blk GD.out (fun e => by have := (hP _ e.symm).1; omega)) (fun e => by have := hQ _ e.symm; omega)
  have kD : Kept (fun i => i = D) w7 (putB w7 D c7 27) := (Kept.refl (fun i => i = D) w7).putM rfl _ _
  refine ⟨Lib.hid (putB_blk _ _ _ _ (lt_of_block h7D)), Lib.hid (kk.blk GS.out ?_), Lib.hid (RN5.out.step kk ?_), Lib.hid (GRD.out.doW HQ), Lib.hid (GWT.out.step HQ), Lib.hid ⟨?_, ?_, GN.out.2.2.1, ?_, fun z hz => GN.out.2.2.2.2 z (mem_erase hz)⟩, Lib.hid ((OW6.kept hk7 (fun g hg e => c6 g hg e.symm) (fun _ _ x => x)).kept kD (fun g hg e => by have := b6 g hg; omega) (fun _ _ x => x)), Lib.hid (hown7.kept kD (fun g hg e => by have := b7 g hg; omega) (fun _ _ x => x)), Lib.hid (fun g hg => ⟨b6 g hg, fun e => ?_⟩), Lib.hid b7, Lib.hid (GW.out.trans' kk ?_)⟩
  · rintro (e | e | e)
    · omega
    · have := (hP _ e.symm).1; omega
    · have := hQ _ e.symm; omega
  · rintro i hi (e | e | e)
    · exact .inl e
    · rcases hP6 i e.symm with h | h
      · exact .inr (.inl h.symm)
      · omega
    · rcases hq7 i e.symm with h | h
      · exact .inr (.inr h.symm)
      · omega
  · have := GN.out.1
    have h2 := len_putT f.table f.room y
    show (if hasI f.lost y.seq = true then f.table else putT f.table f.room y).length ≤ _
    split <;> omega
  · have := GN.out.2.1
    show (if isPut f y = true then insI y.seq f.done else f.done).length ≤ _
    split
    · rw [len_insI]; omega
    · omega
  · intro r hr
    have hr' : r ∈ (if hasI f.lost y.seq = true then f.table else putT f.table f.room y) := hr
    split at hr'
    · exact GN.out.2.2.2.1 r hr'
    · rcases mem_putT_or hr' with e | hr'
      · exact .inr ⟨y, GN.out.2.2.2.2 y (List.mem_of_getElem? HQ), e⟩
      · exact GN.out.2.2.2.1 r hr'
  · rcases hq7 g e with h | h
    · exact c6 g hg h
    · have := l6 g hg; omega
  · rintro i hi (e | e | e)
    · omega
    · have := (hP _ e.symm).1; omega
    · have := hQ _ e.symm; omega
end Go.Proofs.Ytghgegghlefclaa
