/- Walks: Put of the program. -/
import Derived.Test.YtghgegghlefclaaKW5
import Derived.Test.YtghgegghlefclaaKW6
import Derived.Test.YtghgegghlefclaaKAgg
set_option linter.unusedVariables false
set_option linter.unusedSimpArgs false
set_option linter.unusedSectionVars false
namespace Go.Proofs.Ytghgegghlefclaa
open Go.RowKit
set_option maxHeartbeats 2000000
set_option maxRecDepth 8000
theorem insT_has {r : Ru} {t : List Ru} (h : DecT t) (hh : hasT r.pri t = true) : insT r t = t.set (posT r.pri t) r ∧ posT r.pri t < t.length := by
  induction t with
  | nil => simp [hasT] at hh
  | cons x t ih =>
    obtain ⟨h1, h2⟩ := h
    unfold insT posT
    by_cases c1 : x.pri < r.pri
    · exfalso
      unfold hasT at hh
      rw [List.any_cons, Bool.or_eq_true, decide_eq_true_eq] at hh
      rcases hh with hh | hh
      · omega
      · obtain ⟨y, hy, e⟩ := List.any_eq_true.1 hh
        have := h1 y hy
        simp at e; omega
    · rw [if_neg c1]
      by_cases c2 : x.pri = r.pri
      · rw [if_pos c2, if_neg (by omega)]; simp
      · rw [if_neg c2, if_pos (by omega)]
        have hh' : hasT r.pri t = true := by
          unfold hasT at hh ⊢
          rw [List.any_cons, Bool.or_eq_true, decide_eq_true_eq] at hh
          rcases hh with hh | hh
          · exact absurd hh c2
          · exact hh
        obtain ⟨e1, e2⟩ := ih h2 hh'
        exact ⟨by rw [e1]; rfl, by simpa using e2⟩
theorem insT_not {r : Ru} {t : List Ru} (h : DecT t) (hh : hasT r.pri t = false) : insT r t = t.take (posT r.pri t) ++ r :: t.drop (posT r.pri t) := by
  induction t with
  | nil => rfl
  | cons x t ih =>
    obtain ⟨h1, h2⟩ := h
    unfold hasT at hh
    rw [List.any_cons, Bool.or_eq_false_iff, decide_eq_false_iff_not] at hh
    unfold insT posT
    by_cases c1 : x.pri < r.pri
    · rw [if_pos c1, if_neg (by omega)]; rfl
    · rw [if_neg c1, if_neg hh.1, if_pos (by omega), ih h2 hh.2]; rfl
theorem remT_has {p : Int} {t : List Ru} (h : DecT t) (hh : hasT p t = true) : remT p t = t.eraseIdx (posT p t) ∧ posT p t < t.length := by
  induction t with
  | nil => simp [hasT] at hh
  | cons x t ih =>
    obtain ⟨h1, h2⟩ := h
    unfold hasT at hh
    rw [List.any_cons, Bool.or_eq_true, decide_eq_true_eq] at hh
    unfold remT posT
    by_cases c : x.pri = p
    · rw [List.filter_cons, if_neg (by simpa using c), if_neg (by omega)]
      refine ⟨?_, by simp⟩
      rw [List.eraseIdx_zero, List.tail_cons, List.filter_eq_self]
      intro y hy
      have := h1 y hy
      simp; omega
    · have hh' : hasT p t = true := by
        rcases hh with hh | hh
        · exact absurd hh c
        · exact hh
      obtain ⟨y, hy, e⟩ := List.any_eq_true.1 hh'
      have := h1 y hy
      simp at e
      obtain ⟨e1, e2⟩ := ih h2 hh'
      rw [List.filter_cons, if_pos (by simpa using c), if_pos (by omega)]
      exact ⟨by rw [List.eraseIdx_cons_succ, ← e1]; rfl, by simpa using e2⟩
theorem remT_not {p : Int} {t : List Ru} (hh : hasT p t = false) : remT p t = t := by
  unfold remT
  rw [List.filter_eq_self]
  intro y hy
  unfold hasT at hh
  rw [List.any_eq_false] at hh
  simpa using hh y hy
section
variable {t : List Ru} {room : Int} {x : Wr}
theorem put_k3 (h : x.kind = 3) : putT t room x = t ∧ putOk t room x = true := by
  have : putOk t room x = true := by unfold putOk; rw [decide_eq_true h]; rfl
  refine ⟨?_, this⟩
  unfold putT putU; rw [if_pos this, if_pos h]
theorem put_drop (h3 : ¬ x.kind = 3) (h : x.kind = 2) (hr : (t.length : Int) ≤ room) : putT t room x = remT x.rule.pri t ∧ putOk t room x = true := by
  have hu : putU t x = remT x.rule.pri t := by unfold putU; rw [if_neg h3, if_pos h]
  have : putOk t room x = true := by
    unfold putOk; rw [hu, Bool.or_eq_true, decide_eq_true_eq, decide_eq_true_eq]
    right; have := len_remT x.rule.pri t; omega
  refine ⟨?_, this⟩
  unfold putT; rw [if_pos this, hu]
theorem put_has (h3 : ¬ x.kind = 3) (h : ¬ x.kind = 2) (hr : (t.length : Int) ≤ room) (hd : DecT t) (hh : hasT x.rule.pri t = true) : putT t room x = t.set (posT x.rule.pri t) x.rule ∧ putOk t room x = true := by
  have hu : putU t x = t.set (posT x.rule.pri t) x.rule := by unfold putU; rw [if_neg h3, if_neg h]; exact (insT_has hd hh).1
  have : putOk t room x = true := by
    unfold putOk; rw [hu, Bool.or_eq_true, decide_eq_true_eq, decide_eq_true_eq]
    right; simpa using hr
  refine ⟨?_, this⟩
  unfold putT; rw [if_pos this, hu]
theorem put_full (h3 : ¬ x.kind = 3) (h : ¬ x.kind = 2) (hr : room ≤ (t.length : Int)) (hd : DecT t) (hh : hasT x.rule.pri t = false) : putT t room x = t ∧ putOk t room x = false := by
  have hu : putU t x = t.take (posT x.rule.pri t) ++ x.rule :: t.drop (posT x.rule.pri t) := by unfold putU; rw [if_neg h3, if_neg h]; exact insT_not hd hh
  have hp := posT_le x.rule.pri t
  have : putOk t room x = false := by
    unfold putOk; rw [hu, Bool.or_eq_false_iff, decide_eq_false_iff_not, decide_eq_false_iff_not]
    refine ⟨h3, ?_⟩
    simp; omega
  refine ⟨?_, this⟩
  unfold putT; rw [if_neg (by rw [this]; simp)]
theorem put_new (h3 : ¬ x.kind = 3) (h : ¬ x.kind = 2) (hr : (t.length : Int) < room) (hd : DecT t) (hh : hasT x.rule.pri t = false) : putT t room x = t.take (posT x.rule.pri t) ++ x.rule :: t.drop (posT x.rule.pri t) ∧ putOk t room x = true := by
  have hu : putU t x = t.take (posT x.rule.pri t) ++ x.rule :: t.drop (posT x.rule.pri t) := by unfold putU; rw [if_neg h3, if_neg h]; exact insT_not hd hh
  have hp := posT_le x.rule.pri t
  have : putOk t room x = true := by
    unfold putOk; rw [hu, Bool.or_eq_true, decide_eq_true_eq, decide_eq_true_eq]
    right; simp; omega
  refine ⟨?_, this⟩
  unfold putT; rw [if_pos this, hu]
end
/-- an own list reads outside of what was there -/
theorem OwnS.out {α : Type} {w w' : World} {M : Nat → Prop} {O : Option Nat} {e : TypeId} {sz : Nat} {E : List Value → α → Prop} {v : Value} {xs : List α} (h : OwnS w' O e sz E v xs) (hn : NewO w none O) (hM : ∀ i, M i → i < w.heap.size) : RdS w' M sz E v xs :=
  h.rdNew hn (fun g hg hm => by have := hM g hm; omega)
theorem put_ok (v : Value) (t : List Ru) (M : Nat → Prop) (room : Int) (x : Wr) (w : World) (h : RdS w M 23 ERu v t) (hM : ∀ i, M i → i < w.heap.size) (hd : DecT t) (hr : (t.length : Int) ≤ room) (hl : t.length ≤ 10000) :
    Calls Try.prog 12 #[v, .int .i64 room, .agg (wrC x)] w fun e w' => ∃ a cap, e = .returned (.tuple #[.slice a (putT t room x).length cap, .bool (putOk t room x)]) ∧ RdS w' M 23 ERu (.slice a (putT t room x).length cap) (putT t room x) ∧ Kept NoM w w' := by
  obtain ⟨a, cap, rfl, _, _⟩ := h.shape
  have HH := Lib.hid h
  have HM := Lib.hid hM
  have K0 := Lib.hid ((Kept.refl NoM w).alloc (.cells (wrC x) 41))
  have HW := Lib.hid (blk_new w (.cells (wrC x) 41))
  by_cases h3 : x.kind = 3
  · obtain ⟨e1, e2⟩ := put_k3 (t := t) (room := room) h3
    rw [e1, e2]
    clear e1 e2 h hM hr
    go_enter Try.func12, Try.ntmps12
    go_wp2_with fail
    go_ret2
    exact ⟨a, cap, rfl, HH.out.kept K0.out.of_no (fun _ _ x => x), K0.out⟩
  · have FI : Hid (∀ wx, Kept NoM w wx → Calls Try.prog 43 #[.slice a t.length cap, .int .i64 x.rule.pri] wx fun e w' => e = .returned (.tuple #[.int .i64 (posT x.rule.pri t), .bool (hasT x.rule.pri t)]) ∧ Kept NoM wx w') := Lib.hid (fun wx k => find_ok _ t M _ wx (h.kept k.of_no (fun _ _ x => x)) hd (by omega))
    have CL : Hid (∀ wx, Kept NoM w wx → Calls Try.prog 44 #[.slice a t.length cap] wx fun e w' => ∃ a cap O, e = .returned (.slice a t.length cap) ∧ OwnS w' O 39 23 ERu (.slice a t.length cap) t ∧ NewO wx none O ∧ Kept NoM wx w') := Lib.hid (fun wx k => clonet_ok _ t M wx (h.kept k.of_no (fun _ _ x => x)) (by omega))
    have hpl := posT_le x.rule.pri t
    clear h hM
    by_cases h2 : x.kind = 2
    · obtain ⟨e1, e2⟩ := put_drop h3 h2 hr
      rw [e1, e2]
      clear e1 e2
      cases hh : hasT x.rule.pri t with
      | true =>
        obtain ⟨e1, e2⟩ := remT_has hd hh
        have hle : (t.eraseIdx (posT x.rule.pri t)).length = t.length - 1 := by rw [List.length_eraseIdx, if_pos e2]
        rw [hh] at FI
        rw [e1, hle]
        have w1 : IntKind.i64.wrap ((posT x.rule.pri t : Int) + 1) = (posT x.rule.pri t : Int) + 1 := IntWalk.i64_in _ (by omega)
        clear e1 hle hr hd hh
        generalize posT x.rule.pri t = k at *
        go_enter Try.func12, Try.ntmps12
        go_wp2_with (first | (go_at_call 43; refine (FI.out _ K0.out).mono ?_; rintro e w1 ⟨rfl, k1⟩; have K1 := Lib.hid (K0.out.trans k1); have x2 := cell_blk (k1.blk HW.out (fun x => x)) 2 _ (wrC_2 x); clear k1) | (go_at_call 44; refine (CL.out _ K1.out).mono ?_; rintro e w2 ⟨a2, cap2, O2, rfl, o2, n2, k2⟩; have x3 := k2.cell x2 (fun x => x); have HO := Lib.hid o2; have HN := Lib.hid n2; have K2 := Lib.hid (K1.out.trans k2); clear o2 n2 k2) | (go_at_call 45; refine (delt_ok _ t k _ HO.out (by omega) (by omega)).mono ?_; rintro e w3 ⟨a3, cap3, rfl, o3, k3⟩; have HO3 := Lib.hid o3; have K3 := Lib.hid k3; clear o3 k3))
        go_ret2
        refine ⟨a3, cap3, rfl, HO3.out.out (w := w1) HN.out (fun i hi => Nat.lt_of_lt_of_le (HM.out i hi) K1.out.size), K2.out.trans' K3.out (fun i hi e => ?_)⟩
        rcases HN.out with h9 | ⟨g, h9, h10⟩
        · rw [h9] at e; cases e
        · rw [h9] at e; cases e; have := K1.out.size; omega
      | false =>
        rw [remT_not hh]
        rw [hh] at FI
        clear hr hd hh
        generalize posT x.rule.pri t = k at *
        go_enter Try.func12, Try.ntmps12
        go_wp2_with (first | (go_at_call 43; refine (FI.out _ K0.out).mono ?_; rintro e w1 ⟨rfl, k1⟩; have K1 := Lib.hid (K0.out.trans k1); have x2 := cell_blk (k1.blk HW.out (fun x => x)) 2 _ (wrC_2 x); clear k1) | (go_at_call 44; refine (CL.out _ K1.out).mono ?_; rintro e w2 ⟨a2, cap2, O2, rfl, o2, n2, k2⟩; have x3 := k2.cell x2 (fun x => x); have HO := Lib.hid o2; have HN := Lib.hid n2; have K2 := Lib.hid (K1.out.trans k2); clear o2 n2 k2))
        go_ret2
        exact ⟨a2, cap2, rfl, HO.out.out (w := w1) HN.out (fun i hi => Nat.lt_of_lt_of_le (HM.out i hi) K1.out.size), K2.out⟩
    · cases hh : hasT x.rule.pri t with
      | true =>
        obtain ⟨e1, e2⟩ := put_has h3 h2 hr hd hh
        obtain ⟨_, e3⟩ := insT_has hd hh
        have hle : (t.set (posT x.rule.pri t) x.rule).length = t.length := by simp
        rw [hh] at FI
        rw [e1, e2, hle]
        clear e1 e2 hle hr hd hh
        generalize posT x.rule.pri t = k at *
        have hki : (k : Int) < t.length := by omega
        obtain ⟨y, hy⟩ := getAt e3
        have HY := Lib.hid hy
        clear hy
        go_enter Try.func12, Try.ntmps12
        go_wp2_with (first | (go_at_call 43; refine (FI.out _ K0.out).mono ?_; rintro e w1 ⟨rfl, k1⟩; have K1 := Lib.hid (K0.out.trans k1); have x2 := cell_blk (k1.blk HW.out (fun x => x)) 2 _ (wrC_2 x); have HW1 := Lib.hid (k1.blk HW.out (fun x => x)); clear k1) | (go_at_call 44; refine (CL.out _ K1.out).mono ?_; rintro e w2 ⟨a2, cap2, O2, rfl, o2, n2, k2⟩; have x3 := k2.cell x2 (fun x => x); have HW2 := Lib.hid (k2.blk HW1.out (fun x => x)); obtain ⟨g2, c2, cur2, q1, q2, q3, q4, q5, q6, q7⟩ := o2.part (j := 0) (us := ruL x.rule) (x' := x.rule) HY.out (by simp [ruL_len]) (fun cs _ hcs => (splice_full (by rw [hcs, ruL_len]))); simp only [Value.slice.injEq, true_and] at q1; obtain ⟨rfl, rfl⟩ := q1; have HB := Lib.hid q5; have HF := Lib.hid q6; have HO := Lib.hid q7; have HN := Lib.hid n2; have K2 := Lib.hid (K1.out.trans k2); have HO2 := Lib.hid q2; clear o2 n2 k2 q2 q5 q6 q7) | (refine wpList_load_big bigRu rfl _ rfl w.heap.size 3 (ruC x.rule) rfl (fun j v hv => cell_blk HW2.out (3 + j) v (by rw [Nat.add_comm]; simpa [wrC, wrL, ruC] using hv)) rfl ?_) | (refine wpList_store_blk rfl 39 _ _ rfl g2 (k * 23) (ruC x.rule) cur2 39 rfl rfl HB.out (by have := HF.out; simp [ruL_len] at this; simpa using this) (by rw [bigRu.2]; rfl) (ru1 _) ?_))
        go_ret2
        have hg2 : w.heap.size ≤ g2 := by
          have := K1.out.size
          rcases HN.out with h9 | ⟨g, h9, h10⟩
          · rw [q4] at h9; cases h9
          · rw [q4] at h9; cases h9; omega
        refine ⟨some ⟨g2, 0, none⟩, cap2, rfl, HO.out.out (w := w1) HN.out (fun i hi => Nat.lt_of_lt_of_le (HM.out i hi) K1.out.size), K2.out.putN hg2 _ _⟩
      | false =>
        by_cases hroom : room ≤ (t.length : Int)
        · obtain ⟨e1, e2⟩ := put_full h3 h2 hroom hd hh
          rw [hh] at FI
          rw [e1, e2]
          clear e1 e2 hr hd hh
          generalize posT x.rule.pri t = k at *
          go_enter Try.func12, Try.ntmps12
          go_wp2_with (first | (go_at_call 43; refine (FI.out _ K0.out).mono ?_; rintro e w1 ⟨rfl, k1⟩; have K1 := Lib.hid (K0.out.trans k1); have x2 := cell_blk (k1.blk HW.out (fun x => x)) 2 _ (wrC_2 x); clear k1) | (go_at_call 44; refine (CL.out _ K1.out).mono ?_; rintro e w2 ⟨a2, cap2, O2, rfl, o2, n2, k2⟩; have x3 := k2.cell x2 (fun x => x); have K2 := Lib.hid (K1.out.trans k2); clear o2 n2 k2))
          go_ret2
          exact ⟨a, cap, rfl, HH.out.kept K2.out.of_no (fun _ _ x => x), K2.out⟩
        · obtain ⟨e1, e2⟩ := put_new (room := room) h3 h2 (by omega) hd hh
          rw [hh] at FI
          have hle : (t.take (posT x.rule.pri t) ++ x.rule :: t.drop (posT x.rule.pri t)).length = t.length + 1 := by simp; omega
          rw [e1, e2, hle]
          clear e1 e2 hle hr hd hh
          generalize posT x.rule.pri t = k at *
          have hro : ¬ (t.length : Int) ≥ room := by omega
          go_enter Try.func12, Try.ntmps12
          go_wp2_with (first | (go_at_call 43; refine (FI.out _ K0.out).mono ?_; rintro e w1 ⟨rfl, k1⟩; have K1 := Lib.hid (K0.out.trans k1); have x2 := cell_blk (k1.blk HW.out (fun x => x)) 2 _ (wrC_2 x); have HW1 := Lib.hid (k1.blk HW.out (fun x => x)); clear k1) | (go_at_call 44; refine (CL.out _ K1.out).mono ?_; rintro e w2 ⟨a2, cap2, O2, rfl, o2, n2, k2⟩; have x3 := k2.cell x2 (fun x => x); have HW2 := Lib.hid (k2.blk HW1.out (fun x => x)); have HO := Lib.hid o2; have HN := Lib.hid n2; have K2 := Lib.hid (K1.out.trans k2); clear o2 n2 k2) | (refine wpList_load_big bigRu rfl _ rfl w.heap.size 3 (ruC x.rule) rfl (fun j v hv => cell_blk HW2.out (3 + j) v (by rw [Nat.add_comm]; simpa [wrC, wrL, ruC] using hv)) rfl ?_))
          have HB := Lib.hid (blk_new w2 (.cells (ruC x.rule) 39))
          have KB := Lib.hid ((Kept.refl NoM w2).alloc (.cells (ruC x.rule) 39))
          have HO2 := Lib.hid (HO.out.kept KB.out (fun _ _ x => x) (fun _ _ x => x))
          have hne : O2 ≠ some w2.heap.size := fun e => by have := HO.out.lt _ e; omega
          refine (inst_ok (M := NoM) (.slice a2 t.length cap2) t k x.rule w2.heap.size _ HO2.out hpl (by omega) HB.out hne).mono ?_
          rintro e w3 ⟨a3, cap3, O3, rfl, o3, n3, k3⟩
          have H3 := Lib.hid o3
          have N3 := Lib.hid n3
          have K3 := Lib.hid k3
          clear o3 n3 k3
          go_wp2_with fail
          go_ret2
          have hnew : NewO w none O3 := by
            have h1 := K1.out.size
            have h2 := K2.out.size
            have h4 := KB.out.size
            rcases N3.out with h9 | ⟨g, h9, h10⟩
            · rcases HN.out with h11 | ⟨g, h11, h12⟩
              · exact .inl (h9.trans h11)
              · exact .inr ⟨g, h9.trans h11, by omega⟩
            · exact .inr ⟨g, h9, by omega⟩
          refine ⟨a3, cap3, rfl, H3.out.out hnew HM.out, (K2.out.trans KB.out).trans' K3.out (fun i hi e => ?_)⟩
          have h1 := K1.out.size
          rcases HN.out with h11 | ⟨g, h11, h12⟩
          · rw [h11] at e; cases e
          · rw [h11] at e; cases e; omega
end Go.Proofs.Ytghgegghlefclaa
