/- Texts that belong together: RE, RL. -/
import Derived.Test.YtgohploghbimlaaDoorKWD
import Derived.Deep.CutRange
import Derived.Deep.DeepCutAuto
import Derived.Test.YtgohploghbimlaaDoorKPlain
import Derived.BigQuiet
import Derived.BigRegion
import Derived.Deep.QuietTactic
set_option linter.unusedVariables false
set_option linter.unusedSimpArgs false
set_option linter.unusedSectionVars false
/- Walks of the specification: ask. -/
namespace Go.Proofs.YtgohploghbimlaaDoor
open Go.RowKit
set_option maxHeartbeats 1000000
set_option maxRecDepth 4000

theorem rask_ok (r : Rep) (m : Let) (iv : Value) (lv vv mv : Value) (M : Nat → Prop) (w : World) (hlv : RdItems w M lv r.log) (hvv : RdBools w M vv r.votes) (hmv : RdInts w M mv r.mat) (hiv : RdItems w NoM iv m.items) (hll : r.log.length ≤ 10000) :
    Calls Tryd.prog 54 #[.agg #[.int .i64 r.id, .int .i64 r.count, .int .i64 r.epoch, .int .i64 r.voted, .int .i64 r.role, lv, .int .i64 r.conf, vv, mv], .agg #[.int .i64 m.kind, .int .i64 m.src, .int .i64 m.dst, .int .i64 m.ep, .int .i64 m.pos, .int .i64 m.aep, iv, .int .i64 m.conf, .bool m.yes]] w (RSent M w (askF r m).1 (askF r m).2 0) := by
  obtain ⟨la, lcap, rfl, hlc, hlm⟩ := hlv.shape
  obtain ⟨va, vcap, rfl, _, _⟩ := hvv.shape
  obtain ⟨ma, mcap, rfl, _, _⟩ := hmv.shape
  obtain ⟨ia, icap, rfl, _, _⟩ := hiv.shape
  have K3 : ∀ a b c, Kept NoM w (((w.alloc a).alloc b).alloc c) := fun a b c => (((Kept.refl NoM w).alloc a).alloc b).alloc c
  have hlast := fun a b c => rlast_ok (.slice la r.log.length lcap) r.log M (((w.alloc a).alloc b).alloc c) (hlv.kept (K3 a b c).of_no) (by omega)
  obtain ⟨own, hown⟩ : ∃ own, own = lastF r.log := ⟨_, rfl⟩
  obtain ⟨od, hod⟩ : ∃ od : Bool, od = decide (m.aep < own ∨ (m.aep = own ∧ m.pos < (r.log.length : Int))) := ⟨_, rfl⟩
  obtain ⟨y, hy⟩ : ∃ y : Bool, y = decide (m.ep = r.epoch ∧ (r.voted = -1 ∨ r.voted = m.src) ∧ od = false) := ⟨_, rfl⟩
  have hyes : askYes r m = y := by
    unfold askYes; rw [hy, hod, hown]; simp only [decide_eq_false_iff_not, decide_eq_decide]; omega
  have hF : askF r m = ((if y then { r with voted := m.src } else r), [{ kind := 2, src := r.id, dst := m.src, ep := r.epoch, pos := 0, aep := 0, items := [], conf := 0, yes := y }]) := by
    unfold askF; rw [hyes]
  rw [← hown] at hlast
  have HF := Lib.hid hF
  have HY := Lib.hid hy
  have HN := Lib.hid hod
  clear hF hy hown hod hyes
  go_enter Tryd.func54, Tryd.ntmps54
  go_upto_region 1 with fail
  go_wp2_with fail
  refine (hlast _ _ _).mono ?_
  rintro e w1 ⟨rfl, rfl⟩
  go_upto_region 2 with fail
  go_cut [6] from 11 to 28 (fun c wx => c = .bool od ∧ wx = (((w.alloc (.cells #[.int .i64 r.id, .int .i64 r.count, .int .i64 r.epoch, .int .i64 r.voted, .int .i64 r.role, .slice la r.log.length lcap, .int .i64 r.conf, .slice va r.votes.length vcap, .slice ma r.mat.length mcap] 32 (0, 0))).alloc (.cells #[.int .i64 m.kind, .int .i64 m.src, .int .i64 m.dst, .int .i64 m.ep, .int .i64 m.pos, .int .i64 m.aep, .slice ia m.items.length icap, .int .i64 m.conf, .bool m.yes] 57 (0, 0))).alloc (.cells #[.int .i64 0, .int .i64 0, .int .i64 0, .int .i64 0, .int .i64 0, .slice none 0 0, .int .i64 0, .slice none 0 0, .slice none 0 0, .slice none 0 0, .int .i64 0] 62 (0, 0))))
  case first =>
    by_cases e1 : m.aep < own
    · have hn := Lib.hid (show od = true by rw [HN.out]; exact decide_eq_true (.inl e1))
      go_wp2
      go_meet
      exact ⟨congrArg Value.bool hn.out.symm, rfl⟩
    have ne1 := decide_eq_false e1
    by_cases e2 : m.aep = own
    · have t2 : (m.aep == own) = true := by rw [beq_iff_eq]; exact e2
      by_cases e3 : m.pos < (r.log.length : Int)
      · have hn := Lib.hid (show od = true by rw [HN.out]; exact decide_eq_true (.inr ⟨e2, e3⟩))
        clear e2
        go_wp2
        go_meet
        exact ⟨congrArg Value.bool hn.out.symm, rfl⟩
      · have hn := Lib.hid (show od = false by rw [HN.out]; exact decide_eq_false (fun h => h.elim e1 (fun h => e3 h.2)))
        have ne3 := decide_eq_false e3
        clear e2
        go_wp2
        go_meet
        exact ⟨congrArg Value.bool hn.out.symm, rfl⟩
    · have t2 : (m.aep == own) = false := by rw [beq_eq_false_iff_ne]; exact e2
      have hn := Lib.hid (show od = false by rw [HN.out]; exact decide_eq_false (fun h => h.elim e1 (fun h => e2 h.1)))
      clear e2
      go_wp2
      go_meet
      exact ⟨congrArg Value.bool hn.out.symm, rfl⟩
  case rest =>
    obtain ⟨rfl, rfl⟩ := hcut
    go_upto_region 3 with fail
    go_cut [7] from 29 to 49 (fun c wx => c = .bool y ∧ wx = (((w.alloc (.cells #[.int .i64 r.id, .int .i64 r.count, .int .i64 r.epoch, .int .i64 r.voted, .int .i64 r.role, .slice la r.log.length lcap, .int .i64 r.conf, .slice va r.votes.length vcap, .slice ma r.mat.length mcap] 32 (0, 0))).alloc (.cells #[.int .i64 m.kind, .int .i64 m.src, .int .i64 m.dst, .int .i64 m.ep, .int .i64 m.pos, .int .i64 m.aep, .slice ia m.items.length icap, .int .i64 m.conf, .bool m.yes] 57 (0, 0))).alloc (.cells #[.int .i64 0, .int .i64 0, .int .i64 0, .int .i64 0, .int .i64 0, .slice none 0 0, .int .i64 0, .slice none 0 0, .slice none 0 0, .slice none 0 0, .int .i64 0] 62 (0, 0))))
    case first =>
      by_cases e1 : m.ep = r.epoch
      · have t1 : (m.ep == r.epoch) = true := by rw [beq_iff_eq]; exact e1
        by_cases e2 : r.voted = -1
        · have t2 : (r.voted == -1) = true := by rw [beq_iff_eq]; exact e2
          have hn := Lib.hid (show y = !od by rw [HY.out]; cases od <;> simp [e1, e2])
          clear e1 e2
          go_wp2
          go_meet
          exact ⟨congrArg Value.bool hn.out.symm, rfl⟩
        · have t2 : (r.voted == -1) = false := by rw [beq_eq_false_iff_ne]; exact e2
          by_cases e3 : r.voted = m.src
          · have t3 : (r.voted == m.src) = true := by rw [beq_iff_eq]; exact e3
            have hn := Lib.hid (show y = !od by rw [HY.out]; cases od <;> simp [e1, e2, e3])
            clear e1 e2 e3
            go_wp2
            go_meet
            exact ⟨congrArg Value.bool hn.out.symm, rfl⟩
          · have t3 : (r.voted == m.src) = false := by rw [beq_eq_false_iff_ne]; exact e3
            have hn := Lib.hid (show y = false by rw [HY.out]; exact decide_eq_false (fun h => h.2.1.elim e2 e3))
            clear e1 e2 e3
            go_wp2
            go_meet
            exact ⟨congrArg Value.bool hn.out.symm, rfl⟩
      · have t1 : (m.ep == r.epoch) = false := by rw [beq_eq_false_iff_ne]; exact e1
        have hn := Lib.hid (show y = false by rw [HY.out]; exact decide_eq_false (fun h => e1 h.1))
        clear e1
        go_wp2
        go_meet
        exact ⟨congrArg Value.bool hn.out.symm, rfl⟩
    case rest =>
      obtain ⟨rfl, rfl⟩ := hcut
      have NM : ∀ i, i < w.heap.size → (i = w.heap.size + 2 ∨ (i < w.heap.size ∧ M i)) → M i := fun i hi h => by
        rcases h with h | h
        · omega
        · exact h.2
      cases y
      · go_wp2_with fail
        refine (ranswer_ok r m 2 0 false _ _ _ _ (fun i => i = w.heap.size + 2 ∨ (i < w.heap.size ∧ M i)) _ (hlv.step (K3 _ _ _).of_no NM) (hvv.step (K3 _ _ _).of_no NM) (hmv.step (K3 _ _ _).of_no NM) (hiv.kept (K3 _ _ _))).mono ?_
        intro e w6 hs
        obtain ⟨la6, lc6, va6, vc6, ma6, mc6, ta6, tc6, e6, hB6, k6, fin⟩ := hs.store (K3 _ _ _) (by simp <;> omega) (by omega)
        subst e6
        have b6 := k6.blk (k := w.heap.size + 2) (blk_new' _ _ _ (by simp)) (fun x => x)
        obtain ⟨w7, e7, z7, fin7⟩ : ∃ w7, w6 = putB w7 (w.heap.size + 2) _ 62 ∧ w.heap.size + 2 < w7.heap.size ∧ ∀ c t, RSent _ w _ _ _ _ (putB w7 (w.heap.size + 2) c t) := ⟨w6, putB_self b6, hB6, fin⟩
        subst e7
        clear fin b6
        go_wp2_with fail
        refine bodyPost_ret (v := .agg #[.int .i64 r.id, .int .i64 r.count, .int .i64 r.epoch, .int .i64 r.voted, .int .i64 r.role, .slice la6 r.log.length lc6, .int .i64 r.conf, .slice va6 r.votes.length vc6, .slice ma6 r.mat.length mc6, .slice ta6 1 tc6, .int .i64 0]) (by simp [results, Tryd.results54, go_sem, z7]) rfl ?_
        rw [HF.out]
        exact (fin7 _ _).weak
      · go_wp2_with fail
        refine (ranswer_ok { r with voted := m.src } m 2 0 true _ _ _ _ (fun i => i = w.heap.size + 2 ∨ (i < w.heap.size ∧ M i)) _ (hlv.step (K3 _ _ _).of_no NM) (hvv.step (K3 _ _ _).of_no NM) (hmv.step (K3 _ _ _).of_no NM) (hiv.kept (K3 _ _ _))).mono ?_
        intro e w6 hs
        obtain ⟨la6, lc6, va6, vc6, ma6, mc6, ta6, tc6, e6, hB6, k6, fin⟩ := hs.store (K3 _ _ _) (by simp <;> omega) (by omega)
        subst e6
        have b6 := k6.blk (k := w.heap.size + 2) (blk_new' _ _ _ (by simp)) (fun x => x)
        obtain ⟨w7, e7, z7, fin7⟩ : ∃ w7, w6 = putB w7 (w.heap.size + 2) _ 62 ∧ w.heap.size + 2 < w7.heap.size ∧ ∀ c t, RSent _ w _ _ _ _ (putB w7 (w.heap.size + 2) c t) := ⟨w6, putB_self b6, hB6, fin⟩
        subst e7
        clear fin b6
        go_wp2_with fail
        refine bodyPost_ret (v := .agg #[.int .i64 r.id, .int .i64 r.count, .int .i64 r.epoch, .int .i64 m.src, .int .i64 r.role, .slice la6 r.log.length lc6, .int .i64 r.conf, .slice va6 r.votes.length vc6, .slice ma6 r.mat.length mc6, .slice ta6 1 tc6, .int .i64 0]) (by simp [results, Tryd.results54, go_sem, z7]) rfl ?_
        rw [HF.out]
        exact (fin7 _ _).weak
end Go.Proofs.YtgohploghbimlaaDoor

/- Walks of the specification: appended. -/
namespace Go.Proofs.YtgohploghbimlaaDoor
open Go.RowKit
set_option maxHeartbeats 4000000
set_option maxRecDepth 4000

theorem OwnS.take {α : Type} {w : World} {O : Option Nat} {e : TypeId} {sz : Nat} {E : List Value → α → Prop} {a : Option Addr} {n cap : Nat} {xs : List α} (h : OwnS w O e sz E (.slice a n cap) xs) (k : Nat) (hk : k ≤ n) (hn : n = xs.length) : OwnS w O e sz E (.slice a k cap) (xs.take k) := by
  obtain ⟨cs, h1, h2, h3, h4⟩ := h.lens
  have h0 := h.1
  rcases h1.2 with ⟨e1, e2⟩ | ⟨g, cap', cur, e1, e2, hg, hc, hm, hs, ht⟩
  · simp only [Value.slice.injEq] at e1
    obtain ⟨rfl, rfl, rfl⟩ := e1
    have hk0 : k = 0 := by omega
    subst hk0
    have hO : O = none := by simpa [Value.ownBlock] using h0.symm
    subst hO
    exact OwnS.nil _ _ _ _
  · simp only [Value.slice.injEq] at e1
    obtain ⟨rfl, _, rfl⟩ := e1
    have hl : (xs.take k).length = k := by simp; omega
    have hcs : (cs.take k).length = k := by simp; omega
    have h4' : ∀ c ∈ cs.take k, c.length = sz := fun c hc => h4 c (List.mem_of_mem_take hc)
    have hfl := flatten_length h4'
    refine ⟨by simpa [Value.ownBlock] using h0, cs.take k, ⟨by rw [hfl, hcs, hl], .inr ⟨g, cap, cur, by rw [hl], e2, hg, by rw [hl]; omega, hm, hs, ?_⟩⟩, by rw [hcs, hl], ?_⟩
    · have e3 : cs.flatten = (cs.take k).flatten ++ (cs.drop k).flatten := by rw [← List.flatten_append, List.take_append_drop]
      have e4 : cur.toList.take (k * sz) = (cur.toList.take (xs.length * sz)).take (k * sz) := by
        rw [List.take_take, Nat.min_eq_left (Nat.mul_le_mul_right _ (by omega))]
      rw [hl, e4, ht, e3, List.take_append_of_le_length (by rw [hfl, hcs]; exact Nat.le_refl _), List.take_of_length_le (by rw [hfl, hcs]; exact Nat.le_refl _)]
    · intro i c x hc hx
      rw [List.getElem?_take] at hc hx
      split at hc
      · next hi => rw [if_pos hi] at hx; exact h3 i c x hc hx
      · cases hc

theorem addCut_len {L : List Item} {k p : Nat} {x : Item} (h : p + k ≤ L.length) : p + (k + 1) ≤ (addOn (cutOff L (p + k) x) (p + k) x).length ∧ (addOn (cutOff L (p + k) x) (p + k) x).length ≤ L.length + 1 := by
  unfold cutOff
  cases h1 : L[p + k]? with
  | none =>
    have h2 := List.getElem?_eq_none_iff.1 h1
    simp only
    unfold addOn
    rw [if_neg (by omega)]
    simp only [List.length_append, List.length_cons, List.length_nil]
    omega
  | some y =>
    have h2 := (List.getElem?_eq_some_iff.1 h1).1
    simp only
    by_cases he : y.ep = x.ep
    · rw [if_pos he]
      unfold addOn
      rw [if_pos h2]
      omega
    · rw [if_neg he]
      unfold addOn
      rw [if_neg (by rw [List.length_take]; omega)]
      simp only [List.length_append, List.length_cons, List.length_nil, List.length_take]
      omega

theorem appLoop_cons (p : Nat) (x : Item) (r : List Item) (k : Nat) (l : List Item) : appLoop p (x :: r) k l = appLoop p r (k + 1) (addOn (cutOff l (p + k) x) (p + k) x) := rfl

theorem rappend_old (r : Rep) (m : Let) (iv : Value) (lv vv mv : Value) (M : Nat → Prop) (w : World) (hlv : RdItems w M lv r.log) (hvv : RdBools w M vv r.votes) (hmv : RdInts w M mv r.mat) (hiv : RdItems w NoM iv m.items) (he : m.ep < r.epoch) :
    Calls Tryd.prog 56 #[.agg #[.int .i64 r.id, .int .i64 r.count, .int .i64 r.epoch, .int .i64 r.voted, .int .i64 r.role, lv, .int .i64 r.conf, vv, mv], .agg #[.int .i64 m.kind, .int .i64 m.src, .int .i64 m.dst, .int .i64 m.ep, .int .i64 m.pos, .int .i64 m.aep, iv, .int .i64 m.conf, .bool m.yes]] w (RSent M w (appendF r m).1 (appendF r m).2 0) := by
  obtain ⟨la, lcap, rfl, hlc, hlm⟩ := hlv.shape
  obtain ⟨va, vcap, rfl, _, _⟩ := hvv.shape
  obtain ⟨ma, mcap, rfl, _, _⟩ := hmv.shape
  obtain ⟨ia, icap, rfl, _, _⟩ := hiv.shape
  have K3 : ∀ a b c, Kept NoM w (((w.alloc a).alloc b).alloc c) := fun a b c => (((Kept.refl NoM w).alloc a).alloc b).alloc c
  have HF := Lib.hid (show appendF r m = (r, [refusal r m]) by unfold appendF; rw [if_pos he])
  have NM : ∀ i, i < w.heap.size → (i = w.heap.size + 2 ∨ (i < w.heap.size ∧ M i)) → M i := fun i hi h => by
    rcases h with h | h
    · omega
    · exact h.2
  go_enter Tryd.func56, Tryd.ntmps56
  go_wp2_with fail
  refine (ranswer_ok r m 4 0 false _ _ _ _ (fun i => i = w.heap.size + 2 ∨ (i < w.heap.size ∧ M i)) _ (hlv.step (K3 _ _ _).of_no NM) (hvv.step (K3 _ _ _).of_no NM) (hmv.step (K3 _ _ _).of_no NM) (hiv.kept (K3 _ _ _))).mono ?_
  intro e w6 hs
  obtain ⟨la6, lc6, va6, vc6, ma6, mc6, ta6, tc6, e6, hB6, k6, fin⟩ := hs.store (K3 _ _ _) (by simp <;> omega) (by omega)
  subst e6
  have b6 := k6.blk (k := w.heap.size + 2) (blk_new' _ _ _ (by simp)) (fun x => x)
  obtain ⟨w7, e7, z7, fin7⟩ : ∃ w7, w6 = putB w7 (w.heap.size + 2) _ 62 ∧ w.heap.size + 2 < w7.heap.size ∧ ∀ c t, RSent _ w _ _ _ _ (putB w7 (w.heap.size + 2) c t) := ⟨w6, putB_self b6, hB6, fin⟩
  subst e7
  clear fin b6
  go_wp2_with fail
  refine bodyPost_ret (v := .agg #[.int .i64 r.id, .int .i64 r.count, .int .i64 r.epoch, .int .i64 r.voted, .int .i64 r.role, .slice la6 r.log.length lc6, .int .i64 r.conf, .slice va6 r.votes.length vc6, .slice ma6 r.mat.length mc6, .slice ta6 1 tc6, .int .i64 0]) (by simp [results, Tryd.results56, go_sem, z7]) rfl ?_
  rw [HF.out]
  exact (fin7 _ _).weak

theorem rappend_lead (r : Rep) (m : Let) (iv : Value) (lv vv mv : Value) (M : Nat → Prop) (w : World) (hlv : RdItems w M lv r.log) (hvv : RdBools w M vv r.votes) (hmv : RdInts w M mv r.mat) (hiv : RdItems w NoM iv m.items) (he : ¬ m.ep < r.epoch) (h3 : r.role = 3) :
    Calls Tryd.prog 56 #[.agg #[.int .i64 r.id, .int .i64 r.count, .int .i64 r.epoch, .int .i64 r.voted, .int .i64 r.role, lv, .int .i64 r.conf, vv, mv], .agg #[.int .i64 m.kind, .int .i64 m.src, .int .i64 m.dst, .int .i64 m.ep, .int .i64 m.pos, .int .i64 m.aep, iv, .int .i64 m.conf, .bool m.yes]] w (RSent M w (appendF r m).1 (appendF r m).2 0) := by
  obtain ⟨la, lcap, rfl, hlc, hlm⟩ := hlv.shape
  obtain ⟨va, vcap, rfl, _, _⟩ := hvv.shape
  obtain ⟨ma, mcap, rfl, _, _⟩ := hmv.shape
  obtain ⟨ia, icap, rfl, _, _⟩ := hiv.shape
  have K3 : ∀ a b c, Kept NoM w (((w.alloc a).alloc b).alloc c) := fun a b c => (((Kept.refl NoM w).alloc a).alloc b).alloc c
  have HF := Lib.hid (show appendF r m = (r, []) by unfold appendF; rw [if_neg he, if_pos h3])
  have t1 := decide_eq_false he
  have t2 : (r.role == 3) = true := by rw [beq_iff_eq]; exact h3
  clear h3
  go_enter Tryd.func56, Tryd.ntmps56
  go_wp2_with fail
  refine bodyPost_ret (v := .agg #[.int .i64 r.id, .int .i64 r.count, .int .i64 r.epoch, .int .i64 r.voted, .int .i64 r.role, .slice la r.log.length lcap, .int .i64 r.conf, .slice va r.votes.length vcap, .slice ma r.mat.length mcap, .slice none 0 0, .int .i64 0]) (by simp [results, Tryd.results56, go_sem]) rfl ?_
  rw [HF.out]
  exact ⟨_, _, _, _, rfl, hlv.step (K3 _ _ _).of_no (fun _ _ x => x.2), hvv.step (K3 _ _ _).of_no (fun _ _ x => x.2), hmv.step (K3 _ _ _).of_no (fun _ _ x => x.2), RdLets.nil _ _, K3 _ _ _⟩

theorem rappend_less (r : Rep) (m : Let) (iv : Value) (lv vv mv : Value) (M : Nat → Prop) (w : World) (hlv : RdItems w M lv r.log) (hvv : RdBools w M vv r.votes) (hmv : RdInts w M mv r.mat) (hiv : RdItems w NoM iv m.items) (he : ¬ m.ep < r.epoch) (h3 : r.role ≠ 3) (hl : (r.log.length : Int) < m.pos) :
    Calls Tryd.prog 56 #[.agg #[.int .i64 r.id, .int .i64 r.count, .int .i64 r.epoch, .int .i64 r.voted, .int .i64 r.role, lv, .int .i64 r.conf, vv, mv], .agg #[.int .i64 m.kind, .int .i64 m.src, .int .i64 m.dst, .int .i64 m.ep, .int .i64 m.pos, .int .i64 m.aep, iv, .int .i64 m.conf, .bool m.yes]] w (RSent M w (appendF r m).1 (appendF r m).2 0) := by
  have HF := Lib.hid (show appendF r m = (followF r, [refusal r m]) by unfold appendF; rw [if_neg he, if_neg h3]; simp only; rw [if_pos (.inl hl)])
  obtain ⟨la, lcap, rfl, hlc, hlm⟩ := hlv.shape
  obtain ⟨va, vcap, rfl, _, _⟩ := hvv.shape
  obtain ⟨ma, mcap, rfl, _, _⟩ := hmv.shape
  obtain ⟨ia, icap, rfl, _, _⟩ := hiv.shape
  have K3 : ∀ a b c, Kept NoM w (((w.alloc a).alloc b).alloc c) := fun a b c => (((Kept.refl NoM w).alloc a).alloc b).alloc c
  have t1 := decide_eq_false he
  have t2 : (r.role == 3) = false := by rw [beq_eq_false_iff_ne]; exact h3
  clear h3
  have NM : ∀ i, i < w.heap.size → (i = w.heap.size + 2 ∨ (i < w.heap.size ∧ M i)) → M i := fun i hi h => by
    rcases h with h | h
    · omega
    · exact h.2
  go_enter Tryd.func56, Tryd.ntmps56
  go_wp2_with fail
  refine (rfollow_ok r la va ma r.log.length lcap r.votes.length vcap r.mat.length mcap _).mono ?_
  rintro e w1 ⟨rfl, k1⟩
  have b0 := k1.blk (k := w.heap.size) (blk_old (blk_old (blk_new' w _ w.heap.size rfl) _) _) (fun x => x)
  have b1 := k1.blk (k := w.heap.size + 1) (blk_old (blk_new' _ _ _ (by simp)) _) (fun x => x)
  have b2 := k1.blk (k := w.heap.size + 2) (blk_new' _ _ _ (by simp)) (fun x => x)
  obtain ⟨w2, e2, z0, z1, z2, y2, K2⟩ : ∃ w2, w1 = putB (putB w2 (w.heap.size + 1) _ 57) w.heap.size _ 32 ∧ w.heap.size < w2.heap.size ∧ w.heap.size + 1 < w2.heap.size ∧ w.heap.size + 2 < w2.heap.size ∧ w2.heap[w.heap.size + 2]? = some _ ∧ Kept NoM w w2 :=
    ⟨w1, expose2a b1 b0, lt_of_block b0, lt_of_block b1, lt_of_block b2, b2, (K3 _ _ _).trans k1⟩
  have KE : ∀ a c n, Kept NoM w ((putB (putB w2 (w.heap.size + 1) a 57) w.heap.size c 32).drewN n) := fun a c n => ((K2.putN (b := w.heap.size + 1) (by omega) a 57).putN (b := w.heap.size) (by omega) c 32).drewN n
  have BE : ∀ a c n, ((putB (putB w2 (w.heap.size + 1) a 57) w.heap.size c 32).drewN n).heap[w.heap.size + 2]? = some (.cells #[.int .i64 0, .int .i64 0, .int .i64 0, .int .i64 0, .int .i64 0, .slice none 0 0, .int .i64 0, .slice none 0 0, .slice none 0 0, .slice none 0 0, .int .i64 0] 62 (0, 0)) := fun a c n => blk_drewN ((putB_blk_ne _ _ _ _ _ (by omega)).trans ((putB_blk_ne _ _ _ _ _ (by omega)).trans y2)) n
  clear b0 b1 b2 k1
  subst e2
  go_wp2_with fail
  go_quiet (fail)
  go_wp2_with fail
  refine (ranswer_ok ⟨r.id, r.count, r.epoch, r.voted, 1, r.log, r.conf, [], []⟩ m 4 0 false _ _ _ _ (fun i => i = w.heap.size + 2 ∨ (i < w.heap.size ∧ M i)) _ (hlv.step (KE _ _ _).of_no NM) (RdBools.nil _ _) (RdInts.nil _ _) (hiv.kept (KE _ _ _))).mono ?_
  intro e w6 hs
  obtain ⟨la6, lc6, va6, vc6, ma6, mc6, ta6, tc6, e6, hB6, k6, fin⟩ := hs.store (KE _ _ _) (show w.heap.size + 2 < (putB (putB w2 _ _ _) _ _ _).heap.size by simp only [putB_size]; omega) (by omega)
  subst e6
  have b6 := k6.blk (k := w.heap.size + 2) (BE _ _ _) (fun x => x)
  obtain ⟨w7, e7, z7, fin7⟩ : ∃ w7, w6 = putB w7 (w.heap.size + 2) _ 62 ∧ w.heap.size + 2 < w7.heap.size ∧ ∀ c t, RSent _ w _ _ _ _ (putB w7 (w.heap.size + 2) c t) := ⟨w6, putB_self b6, hB6, fin⟩
  subst e7
  clear fin b6
  go_wp2_with fail
  refine bodyPost_ret (v := .agg #[.int .i64 r.id, .int .i64 r.count, .int .i64 r.epoch, .int .i64 r.voted, .int .i64 1, .slice la6 r.log.length lc6, .int .i64 r.conf, .slice va6 0 vc6, .slice ma6 0 mc6, .slice ta6 1 tc6, .int .i64 0]) (by simp [results, Tryd.results56, go_sem, z7]) rfl ?_
  rw [HF.out]
  exact (fin7 _ _).weak

theorem rappend_diff (r : Rep) (m : Let) (iv : Value) (lv vv mv : Value) (M : Nat → Prop) (w : World) (hlv : RdItems w M lv r.log) (hvv : RdBools w M vv r.votes) (hmv : RdInts w M mv r.mat) (hiv : RdItems w NoM iv m.items) (he : ¬ m.ep < r.epoch) (h3 : r.role ≠ 3) (hll : r.log.length ≤ 1000) (q : Nat) (hq : m.pos = (q : Int) + 1) (x0 : Item) (hx0 : r.log[q]? = some x0) (hne : x0.ep ≠ m.aep) :
    Calls Tryd.prog 56 #[.agg #[.int .i64 r.id, .int .i64 r.count, .int .i64 r.epoch, .int .i64 r.voted, .int .i64 r.role, lv, .int .i64 r.conf, vv, mv], .agg #[.int .i64 m.kind, .int .i64 m.src, .int .i64 m.dst, .int .i64 m.ep, .int .i64 m.pos, .int .i64 m.aep, iv, .int .i64 m.conf, .bool m.yes]] w (RSent M w (appendF r m).1 (appendF r m).2 0) := by
  have hql := (List.getElem?_eq_some_iff.1 hx0).1
  have HF := Lib.hid (show appendF r m = (followF r, [refusal r m]) by
    unfold appendF; rw [if_neg he, if_neg h3]; simp only
    have hc : lastF (r.log.take m.pos.toNat) ≠ m.aep := by
      rw [hq, show ((q : Int) + 1).toNat = q + 1 by omega, lastF_take hx0]; exact hne
    rw [if_pos (.inr hc)])
  obtain ⟨kind, src, dst, ep, pos, aep, items, conf2, yes⟩ := m
  simp only at hq hne he hiv
  subst hq
  have t3 : (x0.ep != aep) = true := by rw [bne_iff_ne]; exact hne
  have t4 : decide ((r.log.length : Int) < (q : Int) + 1) = false := decide_eq_false (by omega)
  have hqz : (q : Int) + 1 - 1 = q := by omega
  have hqw : IntKind.wrap .i64 (q : Int) = q := IntWalk.i64_in _ (by omega)
  have hqi : (q : Int) < r.log.length := by omega
  obtain ⟨la, lcap, rfl, hlc, hlm⟩ := hlv.shape
  obtain ⟨va, vcap, rfl, _, _⟩ := hvv.shape
  obtain ⟨ma, mcap, rfl, _, _⟩ := hmv.shape
  obtain ⟨lb, loff, rfl, _, hbl, x00, _⟩ := hlv.at hx0
  obtain ⟨ia, icap, rfl, _, _⟩ := hiv.shape
  have K3 : ∀ a b c, Kept NoM w (((w.alloc a).alloc b).alloc c) := fun a b c => (((Kept.refl NoM w).alloc a).alloc b).alloc c
  have t1 := decide_eq_false he
  have t2 : (r.role == 3) = false := by rw [beq_eq_false_iff_ne]; exact h3
  clear h3
  clear hne hx0 hll
  have NM : ∀ i, i < w.heap.size → (i = w.heap.size + 2 ∨ (i < w.heap.size ∧ M i)) → M i := fun i hi h => by
    rcases h with h | h
    · omega
    · exact h.2
  go_enter Tryd.func56, Tryd.ntmps56
  go_wp2_with fail
  refine (rfollow_ok r (some ⟨lb, loff, none⟩) va ma r.log.length lcap r.votes.length vcap r.mat.length mcap _).mono ?_
  rintro e w1 ⟨rfl, k1⟩
  have b0 := k1.blk (k := w.heap.size) (blk_old (blk_old (blk_new' w _ w.heap.size rfl) _) _) (fun x => x)
  have b1 := k1.blk (k := w.heap.size + 1) (blk_old (blk_new' _ _ _ (by simp)) _) (fun x => x)
  have b2 := k1.blk (k := w.heap.size + 2) (blk_new' _ _ _ (by simp)) (fun x => x)
  obtain ⟨w2, e2, z0, z1, z2, y2, K2⟩ : ∃ w2, w1 = putB (putB w2 (w.heap.size + 1) _ 57) w.heap.size _ 32 ∧ w.heap.size < w2.heap.size ∧ w.heap.size + 1 < w2.heap.size ∧ w.heap.size + 2 < w2.heap.size ∧ w2.heap[w.heap.size + 2]? = some _ ∧ Kept NoM w w2 :=
    ⟨w1, expose2a b1 b0, lt_of_block b0, lt_of_block b1, lt_of_block b2, b2, (K3 _ _ _).trans k1⟩
  have KE : ∀ a c n, Kept NoM w ((putB (putB w2 (w.heap.size + 1) a 57) w.heap.size c 32).drewN n) := fun a c n => ((K2.putN (b := w.heap.size + 1) (by omega) a 57).putN (b := w.heap.size) (by omega) c 32).drewN n
  have BE : ∀ a c n, ((putB (putB w2 (w.heap.size + 1) a 57) w.heap.size c 32).drewN n).heap[w.heap.size + 2]? = some (.cells #[.int .i64 0, .int .i64 0, .int .i64 0, .int .i64 0, .int .i64 0, .slice none 0 0, .int .i64 0, .slice none 0 0, .slice none 0 0, .slice none 0 0, .int .i64 0] 62 (0, 0)) := fun a c n => blk_drewN ((putB_blk_ne _ _ _ _ _ (by omega)).trans ((putB_blk_ne _ _ _ _ _ (by omega)).trans y2)) n
  clear b0 b1 b2 k1
  have x00 := K2.cell x00 (fun h => h)
  have lb0 : ¬ lb = w.heap.size := by omega
  have lb1 : ¬ lb = w.heap.size + 1 := by omega
  subst e2
  go_wp2_with fail
  go_quiet (fail)
  go_wp2_with fail
  refine (ranswer_ok ⟨r.id, r.count, r.epoch, r.voted, 1, r.log, r.conf, [], []⟩ ⟨kind, src, dst, ep, (q : Int) + 1, aep, items, conf2, yes⟩ 4 0 false _ _ _ _ (fun i => i = w.heap.size + 2 ∨ (i < w.heap.size ∧ M i)) _ (hlv.step (KE _ _ _).of_no NM) (RdBools.nil _ _) (RdInts.nil _ _) (hiv.kept (KE _ _ _))).mono ?_
  intro e w6 hs
  obtain ⟨la6, lc6, va6, vc6, ma6, mc6, ta6, tc6, e6, hB6, k6, fin⟩ := hs.store (KE _ _ _) (show w.heap.size + 2 < (putB (putB w2 _ _ _) _ _ _).heap.size by simp only [putB_size]; omega) (by omega)
  subst e6
  have b6 := k6.blk (k := w.heap.size + 2) (BE _ _ _) (fun x => x)
  obtain ⟨w7, e7, z7, fin7⟩ : ∃ w7, w6 = putB w7 (w.heap.size + 2) _ 62 ∧ w.heap.size + 2 < w7.heap.size ∧ ∀ c t, RSent _ w _ _ _ _ (putB w7 (w.heap.size + 2) c t) := ⟨w6, putB_self b6, hB6, fin⟩
  subst e7
  clear fin b6
  go_wp2_with fail
  refine bodyPost_ret (v := .agg #[.int .i64 r.id, .int .i64 r.count, .int .i64 r.epoch, .int .i64 r.voted, .int .i64 1, .slice la6 r.log.length lc6, .int .i64 r.conf, .slice va6 0 vc6, .slice ma6 0 mc6, .slice ta6 1 tc6, .int .i64 0]) (by simp [results, Tryd.results56, go_sem, z7]) rfl ?_
  rw [HF.out]
  exact (fin7 _ _).weak


theorem rappend_walk (r : Rep) (m : Let) (iv : Value) (lv vv mv : Value) (M : Nat → Prop) (w : World) (hlv : RdItems w M lv r.log) (hvv : RdBools w M vv r.votes) (hmv : RdInts w M mv r.mat) (hiv : RdItems w NoM iv m.items) (he : ¬ m.ep < r.epoch) (h3 : r.role ≠ 3) (hll : r.log.length ≤ 1000) (p : Nat) (hp : m.pos = (p : Int)) (hpl : p ≤ r.log.length) (hil : m.items.length ≤ 1000)
    (hok : p = 0 ∨ ∃ x0 q, p = q + 1 ∧ r.log[q]? = some x0 ∧ x0.ep = m.aep) (hF : appendF r m = ({ followF r with log := appLoop p m.items 0 r.log, conf := min (max r.conf (min m.conf (p + m.items.length))) (appLoop p m.items 0 r.log).length }, [{ kind := 4, src := r.id, dst := m.src, ep := r.epoch, pos := p + m.items.length, aep := 0, items := [], conf := 0, yes := true }])) :
    Calls Tryd.prog 56 #[.agg #[.int .i64 r.id, .int .i64 r.count, .int .i64 r.epoch, .int .i64 r.voted, .int .i64 r.role, lv, .int .i64 r.conf, vv, mv], .agg #[.int .i64 m.kind, .int .i64 m.src, .int .i64 m.dst, .int .i64 m.ep, .int .i64 m.pos, .int .i64 m.aep, iv, .int .i64 m.conf, .bool m.yes]] w (RSent M w (appendF r m).1 (appendF r m).2 0) := by
  have HF := Lib.hid hF
  have HOK := Lib.hid hok
  have hlv0 := Lib.hid hlv
  clear hF hok
  obtain ⟨kind, src, dst, ep, pos, aep, items, conf2, yes⟩ := m
  simp only at hp he hiv hil
  subst hp
  have t4 : decide ((r.log.length : Int) < (p : Int)) = false := decide_eq_false (by omega)
  obtain ⟨la, lcap, rfl, hlc, hlm⟩ := hlv.shape
  obtain ⟨va, vcap, rfl, _, _⟩ := hvv.shape
  obtain ⟨ma, mcap, rfl, _, _⟩ := hmv.shape
  obtain ⟨ia, icap, rfl, _, _⟩ := hiv.shape
  have K3 : ∀ a b c, Kept NoM w (((w.alloc a).alloc b).alloc c) := fun a b c => (((Kept.refl NoM w).alloc a).alloc b).alloc c
  have t1 := decide_eq_false he
  have t2 : (r.role == 3) = false := by rw [beq_eq_false_iff_ne]; exact h3
  clear h3
  have NM : ∀ i, i < w.heap.size → (i = w.heap.size + 2 ∨ (i < w.heap.size ∧ M i)) → M i := fun i hi h => by
    rcases h with h | h
    · omega
    · exact h.2
  go_enter Tryd.func56, Tryd.ntmps56
  go_wp2_with fail
  refine (rfollow_ok r la va ma r.log.length lcap r.votes.length vcap r.mat.length mcap _).mono ?_
  rintro e w1 ⟨rfl, k1⟩
  have b0 := k1.blk (k := w.heap.size) (blk_old (blk_old (blk_new' w _ w.heap.size rfl) _) _) (fun x => x)
  have b1 := k1.blk (k := w.heap.size + 1) (blk_old (blk_new' _ _ _ (by simp)) _) (fun x => x)
  have b2 := k1.blk (k := w.heap.size + 2) (blk_new' _ _ _ (by simp)) (fun x => x)
  obtain ⟨w2, e2, z0, z1, z2, y2, K2⟩ : ∃ w2, w1 = putB (putB w2 (w.heap.size + 1) _ 57) w.heap.size _ 32 ∧ w.heap.size < w2.heap.size ∧ w.heap.size + 1 < w2.heap.size ∧ w.heap.size + 2 < w2.heap.size ∧ w2.heap[w.heap.size + 2]? = some _ ∧ Kept NoM w w2 :=
    ⟨w1, expose2a b1 b0, lt_of_block b0, lt_of_block b1, lt_of_block b2, b2, (K3 _ _ _).trans k1⟩
  have KE : ∀ a c n, Kept NoM w ((putB (putB w2 (w.heap.size + 1) a 57) w.heap.size c 32).drewN n) := fun a c n => ((K2.putN (b := w.heap.size + 1) (by omega) a 57).putN (b := w.heap.size) (by omega) c 32).drewN n
  have BE : ∀ a c n, ((putB (putB w2 (w.heap.size + 1) a 57) w.heap.size c 32).drewN n).heap[w.heap.size + 2]? = some (.cells #[.int .i64 0, .int .i64 0, .int .i64 0, .int .i64 0, .int .i64 0, .slice none 0 0, .int .i64 0, .slice none 0 0, .slice none 0 0, .slice none 0 0, .int .i64 0] 62 (0, 0)) := fun a c n => blk_drewN ((putB_blk_ne _ _ _ _ _ (by omega)).trans ((putB_blk_ne _ _ _ _ _ (by omega)).trans y2)) n
  clear b0 b1 b2 k1
  subst e2
  go_upto_region 6 with fail
  go_cut [47] from 24 to 47 (fun c wx => c = .bool false ∧ ∃ n, wx = World.drewN (putB (putB w2 (w.heap.size + 1) #[.int .i64 kind, .int .i64 src, .int .i64 dst, .int .i64 ep, .int .i64 p, .int .i64 aep, .slice ia items.length icap, .int .i64 conf2, .bool yes] 57) w.heap.size #[.int .i64 r.id, .int .i64 r.count, .int .i64 r.epoch, .int .i64 r.voted, .int .i64 1, .slice la r.log.length lcap, .int .i64 r.conf, .slice none 0 0, .slice none 0 0] 32) n)
  case first =>
    rcases HOK.out with hp0 | ⟨x0, q, hpq, hx0, hep⟩
    · have t5 : decide ((0 : Int) < (p : Int)) = false := decide_eq_false (by omega)
      have t6 : decide (0 < p) = false := decide_eq_false (by omega)
      have t7 : ¬ (0 : Int) < (p : Int) := by omega
      have t8 : decide (r.log.length < p) = false := decide_eq_false (by omega)
      clear hp0
      go_quiet (fail)
      go_wp2
      go_meet
      exact ⟨rfl, _, rfl⟩
    · subst hpq
      have t3 : (x0.ep != aep) = false := by rw [bne_eq_false_iff_eq]; exact hep
      have t8 : decide ((r.log.length : Int) < (q : Int) + 1) = false := decide_eq_false (by omega)
      have t9 : decide (r.log.length ≤ q) = false := decide_eq_false (by omega)
      have t10 : decide (r.log.length < q + 1) = false := decide_eq_false (by omega)
      have t11 : decide ((r.log.length : Int) ≤ (q : Int)) = false := decide_eq_false (by omega)
      obtain ⟨lb, loff, e1, _, hbl, x00, _⟩ := hlv0.out.at hx0
      have hqz : (q : Int) + 1 - 1 = q := by omega
      have hqw : IntKind.wrap .i64 (q : Int) = q := IntWalk.i64_in _ (by omega)
      have hqi : (q : Int) < r.log.length := by omega
      have x00 := K2.cell x00 (fun h => h)
      have lb0 : ¬ lb = w.heap.size := by omega
      have lb1 : ¬ lb = w.heap.size + 1 := by omega
      clear hep hx0
      subst e1
      go_quiet (fail)
      go_wp2
      go_meet
      exact ⟨rfl, _, rfl⟩
  case rest =>
    obtain ⟨rfl, n0, rfl⟩ := hcut
    have hlw : ∀ n, RdS (World.drewN (putB (putB w2 (w.heap.size + 1) #[.int .i64 kind, .int .i64 src, .int .i64 dst, .int .i64 ep, .int .i64 p, .int .i64 aep, .slice ia items.length icap, .int .i64 conf2, .bool yes] 57) w.heap.size #[.int .i64 r.id, .int .i64 r.count, .int .i64 r.epoch, .int .i64 r.voted, .int .i64 1, .slice la r.log.length lcap, .int .i64 r.conf, .slice none 0 0, .slice none 0 0] 32) n) NoM 2 EItem (.slice la r.log.length lcap) r.log := fun n => hlv.any.kept (KE _ _ n)
    have hsW : (World.drewN (putB (putB w2 (w.heap.size + 1) #[.int .i64 kind, .int .i64 src, .int .i64 dst, .int .i64 ep, .int .i64 p, .int .i64 aep, .slice ia items.length icap, .int .i64 conf2, .bool yes] 57) w.heap.size #[.int .i64 r.id, .int .i64 r.count, .int .i64 r.epoch, .int .i64 r.voted, .int .i64 1, .slice la r.log.length lcap, .int .i64 r.conf, .slice none 0 0, .slice none 0 0] 32) n0).heap.size = w2.heap.size := by show ((putB (putB w2 (w.heap.size + 1) #[.int .i64 kind, .int .i64 src, .int .i64 dst, .int .i64 ep, .int .i64 p, .int .i64 aep, .slice ia items.length icap, .int .i64 conf2, .bool yes] 57) w.heap.size #[.int .i64 r.id, .int .i64 r.count, .int .i64 r.epoch, .int .i64 r.voted, .int .i64 1, .slice la r.log.length lcap, .int .i64 r.conf, .slice none 0 0, .slice none 0 0] 32)).heap.size = _; simp only [putB_size]
    have HSW := Lib.hid hsW
    clear hsW
    obtain ⟨FL, hFL⟩ : ∃ FL, FL = appLoop p items 0 r.log := ⟨_, rfl⟩
    have HFL := Lib.hid hFL
    clear hFL
    go_wp2_with (at_builtin; go_loud (refine wpList_append_S (M := NoM) rfl (.tmp 51) (.tmp 53) 28 rfl 24 tyItems _ rfl (OwnS.nil _ _ _ _) _ rfl (hlw _) eItem_one 0 r.log.length rfl rfl (by unfold maxLen; omega) (by omega) ?_; rw [Nat.zero_add, List.nil_append]; intro a1 cap1 w3 O1 own1 k1 n1))
    have k1' : Kept NoM _ w3 := k1.mono (fun _ _ h => by cases h)
    have hO1 : ∀ g, O1 = some g → w.heap.size + 3 ≤ g := by
      intro g hg
      rcases n1 with h | ⟨g', h, hg2⟩
      · rw [h] at hg; cases hg
      · rw [h] at hg; cases hg; rw [HSW.out] at hg2; omega
    have b0 := k1'.blk (k := w.heap.size) (blk_drewN (putB_blk _ _ _ _ (by simp only [putB_size]; omega)) _) (fun x => x)
    have b1 := k1'.blk (k := w.heap.size + 1) (blk_drewN ((putB_blk_ne _ _ _ _ _ (by omega)).trans (putB_blk _ _ _ _ (by omega))) _) (fun x => x)
    have b2 := k1'.blk (k := w.heap.size + 2) (BE _ _ _) (fun x => x)
    have K3' := (KE _ _ _).trans k1'
    clear k1 k1' n1
    go_wp2_with fail
    go_loopw [5, 6] (fun l i wr => ∃ k : Nat, k ≤ items.length ∧ i = .int .i64 k ∧ ∃ a cap O L, l = .slice a L.length cap ∧ OwnS wr O 45 2 EItem (.slice a L.length cap) L ∧ appLoop p (items.drop k) k L = FL ∧ p + k ≤ L.length ∧ L.length ≤ 1000 + k ∧ (∀ g, O = some g → w.heap.size + 3 ≤ g) ∧
      wr.heap[w.heap.size]? = some (.cells #[.int .i64 r.id, .int .i64 r.count, .int .i64 r.epoch, .int .i64 r.voted, .int .i64 1, .slice la r.log.length lcap, .int .i64 r.conf, .slice none 0 0, .slice none 0 0] 32 (0, 0)) ∧ wr.heap[w.heap.size + 1]? = some (.cells #[.int .i64 kind, .int .i64 src, .int .i64 dst, .int .i64 ep, .int .i64 p, .int .i64 aep, .slice ia items.length icap, .int .i64 conf2, .bool yes] 57 (0, 0)) ∧ wr.heap[w.heap.size + 2]? = some (.cells #[.int .i64 0, .int .i64 0, .int .i64 0, .int .i64 0, .int .i64 0, .slice none 0 0, .int .i64 0, .slice none 0 0, .slice none 0 0, .slice none 0 0, .int .i64 0] 62 (0, 0)) ∧ Kept NoM w wr) (fun _ i _ => items.length - (intOf i).toNat)
    case atStart => exact ⟨0, Nat.zero_le _, rfl, a1, cap1, O1, r.log, rfl, own1, HFL.out.symm, by omega, by omega, hO1, b0, b1, b2, K3'⟩
    case round =>
      obtain ⟨k, hk, rfl, a, cap, O, L, rfl, own, hap, hpk, hLk, hO, b0, b1, b2, hK⟩ := hrel
      have d4 := cell_blk b1 4 _ rfl
      have d6 := cell_blk b1 6 _ rfl
      have hz2 := lt_of_block b2
      have hLi : (L.length : Int) ≤ 1000 + k := by omega
      by_cases hlt : k < items.length
      · have hlti : (k : Int) < items.length := by omega
        obtain ⟨x, hx⟩ := get_at hlt
        rw [drop_at hx, appLoop_cons] at hap
        obtain ⟨ib, ioff, e1, _, hib, x0, x1⟩ := hiv.at hx
        subst e1
        have x0 := hK.cell x0 (fun h => h)
        have x1 := hK.cell x1 (fun h => h)
        have rdL : RdItems wr NoM _ L := own.rd (fun _ _ h => h)
        have HAP := Lib.hid hap
        have B0 := Lib.hid b0
        have B1 := Lib.hid b1
        have B2 := Lib.hid b2
        have HK := Lib.hid hK
        have fin : ∀ (L2 : List Item) a2 cap2 O2 (w5 : World), OwnS w5 O2 45 2 EItem (.slice a2 L2.length cap2) L2 → L2 = addOn (cutOff L (p + k) x) (p + k) x → Kept (fun i => some i = O) wr w5 → NewO wr O O2 →
            ∃ k' : Nat, k' ≤ items.length ∧ Value.int .i64 ((k : Int) + 1) = .int .i64 k' ∧ ∃ a cap O L', Value.slice a2 L2.length cap2 = .slice a L'.length cap ∧ OwnS w5 O 45 2 EItem (.slice a L'.length cap) L' ∧ appLoop p (items.drop k') k' L' = FL ∧ p + k' ≤ L'.length ∧ L'.length ≤ 1000 + k' ∧ (∀ g, O = some g → w.heap.size + 3 ≤ g) ∧
              w5.heap[w.heap.size]? = some (.cells #[.int .i64 r.id, .int .i64 r.count, .int .i64 r.epoch, .int .i64 r.voted, .int .i64 1, .slice la r.log.length lcap, .int .i64 r.conf, .slice none 0 0, .slice none 0 0] 32 (0, 0)) ∧ w5.heap[w.heap.size + 1]? = some (.cells #[.int .i64 kind, .int .i64 src, .int .i64 dst, .int .i64 ep, .int .i64 p, .int .i64 aep, .slice (some ⟨ib, ioff, none⟩) items.length icap, .int .i64 conf2, .bool yes] 57 (0, 0)) ∧ w5.heap[w.heap.size + 2]? = some (.cells #[.int .i64 0, .int .i64 0, .int .i64 0, .int .i64 0, .int .i64 0, .slice none 0 0, .int .i64 0, .slice none 0 0, .slice none 0 0, .slice none 0 0, .int .i64 0] 62 (0, 0)) ∧ Kept NoM w w5 := by
          intro L2 a2 cap2 O2 w5 ho he hk5 hn5
          have hO2 : ∀ g, O2 = some g → w.heap.size + 3 ≤ g := by
            intro g hg
            rcases hn5 with rfl | ⟨g', rfl, hg2⟩
            · exact hO g hg
            · cases hg; omega
          have hlen : p + (k + 1) ≤ L2.length ∧ L2.length ≤ 1000 + (k + 1) := by
            rw [he]
            have := addCut_len (x := x) hpk
            omega
          exact ⟨k + 1, by omega, by simp, a2, cap2, O2, L2, rfl, ho, by rw [← HAP.out, ← he], hlen.1, hlen.2, hO2, hk5.blk B0.out (fun h => by have := hO _ h.symm; omega), hk5.blk B1.out (fun h => by have := hO _ h.symm; omega), hk5.blk B2.out (fun h => by have := hO _ h.symm; omega), HK.out.trans' hk5 (fun i hi h => by have := hO i h.symm; omega)⟩
        have FIN := Lib.hid fin
        have hpkw : IntKind.wrap .i64 ((p : Int) + k) = (p : Int) + k := IntWalk.i64_in _ (by omega)
        have hoo : ∀ o n (L2 : List Item) n2, OwnS wr O 45 2 EItem (.slice a n2 cap) L2 → OwnS ((wr.alloc o).drewN n) O 45 2 EItem (.slice a n2 cap) L2 := fun o n L2 n2 h => h.kept (((Kept.refl NoM wr).alloc o).drewN n) (fun _ _ h => h) (fun _ _ h => h)
        have hrd : ∀ n, RdS ((wr.alloc (.cells #[.int .i64 x.ep, .string x.tx] 45 (0, 0))).drewN n) NoM 2 EItem (.slice (some ⟨wr.heap.size, 0, none⟩) 1 1) [x] := fun n => rd_one (x := x) (blk_drewN (blk_new' _ _ _ rfl) _) (fun h => h) rfl rfl
        have kd : ∀ o n w5, Kept (fun i => some i = O) ((wr.alloc o).drewN n) w5 → Kept (fun i => some i = O) wr w5 := fun o n w5 h => (((Kept.refl NoM wr).alloc o).drewN n).of_no.trans h
        have nd : ∀ o n O2, NewO ((wr.alloc o).drewN n) O O2 → NewO wr O O2 := fun o n O2 h => h.of_le (by show wr.heap.size ≤ (wr.alloc o).heap.size; simp)
        clear fin hap b0 b1 b2 hK hx
        by_cases hin : p + k < L.length
        · have hini : (p : Int) + k < L.length := by omega
          obtain ⟨y, hy⟩ := get_at hin
          obtain ⟨lb, loff, e2, _, hlb, y0, _⟩ := rdL.at hy
          subst e2
          by_cases hep : y.ep = x.ep
          · have t5 : (y.ep != x.ep) = false := by rw [bne_eq_false_iff_eq]; exact hep
            have hge : decide ((L.length : Int) ≤ (p : Int) + k) = false := decide_eq_false (by omega)
            have hL2 : L = addOn (cutOff L (p + k) x) (p + k) x := by
              unfold cutOff; rw [hy]; simp only; rw [if_pos hep]; unfold addOn; rw [if_pos hin]
            have HL2 := Lib.hid hL2
            clear hep hy hL2
            go_wp2_with fail
            go_quiet (fail)
            go_wp2_with fail
            go_roundw
            case rel => exact FIN.out L _ _ O _ (own.kept ((Kept.refl NoM wr).drewN _) (fun _ _ h => h) (fun _ _ h => h)) HL2.out ((Kept.refl _ wr).drewN _) (NewO.refl _ _)
            case measure => simp [intOf]; omega
          · have t5 : (y.ep != x.ep) = true := by rw [bne_iff_ne]; exact hep
            have hL2 : L.take (p + k) ++ [x] = addOn (cutOff L (p + k) x) (p + k) x := by
              unfold cutOff; rw [hy]; simp only; rw [if_neg hep]; unfold addOn; rw [if_neg (by rw [List.length_take]; omega)]
            have HL2 := Lib.hid hL2
            clear hep hy hL2
            go_wp2_with fail
            go_quiet (fail)
            have own4 := own.take (p + k) (by omega) rfl
            have hln : (L.take (p + k)).length = p + k := by rw [List.length_take]; omega
            have HLN := Lib.hid hln
            have hlen2 : (L.take (p + k) ++ [x]).length = p + k + 1 := by rw [List.length_append, hln]; rfl
            have HLEN2 := Lib.hid hlen2
            have hcap := own.shape
            have hb1 : p + k + 1 ≤ maxLen := by unfold maxLen; omega
            have hb2 : (p + k + 1) * 24 ≤ 140737488355328 := by omega
            obtain ⟨a9, cap9, e9, hc9, hm9, _, _⟩ := own.shape
            simp only [Value.slice.injEq] at e9
            obtain ⟨rfl, _, rfl⟩ := e9
            have hcapi : (p : Int) + k ≤ cap := by omega
            have htn : ((p : Int) + k).toNat = p + k := by omega
            clear hln hlen2 hcap hm9
            go_wp2_with (at_builtin; go_loud (refine wpList_append_S (M := NoM) rfl (.tmp 91) (.tmp 97) 28 rfl 24 tyItems _ rfl (hoo _ _ _ _ own4) _ rfl (hrd _) eItem_one (p + k) 1 HLN.out rfl hb1 hb2 ?_; intro a1 cap1 w5 O1 hown1 hk1 hn1))
            have F := FIN.out (L.take (p + k) ++ [x]) a1 cap1 O1 w5 (by rw [HLEN2.out]; exact hown1) HL2.out (kd _ _ _ hk1) (nd _ _ _ hn1)
            rw [HLEN2.out] at F
            go_roundw
            case rel => exact F
            case measure => simp [intOf]; omega
        · have hLk2 : L.length = p + k := by omega
          have u1 : decide ((p : Int) + k < L.length) = false := decide_eq_false (by omega)
          have u2 : decide (p + k < L.length) = false := decide_eq_false (by omega)
          have hge : (L.length : Int) ≤ (p : Int) + k := by omega
          have hL2 : L ++ [x] = addOn (cutOff L (p + k) x) (p + k) x := by
            have e0 : L[p + k]? = none := by rw [List.getElem?_eq_none_iff]; omega
            unfold cutOff; rw [e0]; simp only; unfold addOn; rw [if_neg hin]
          have HL2 := Lib.hid hL2
          have HLN := Lib.hid (show L.length = L.length from rfl)
          have hlen2 : (L ++ [x]).length = L.length + 1 := by rw [List.length_append]; rfl
          have HLEN2 := Lib.hid hlen2
          have hb1 : L.length + 1 ≤ maxLen := by unfold maxLen; omega
          have hb2 : (L.length + 1) * 24 ≤ 140737488355328 := by omega
          clear hL2 hlen2 hLk2 hin
          go_wp2_with fail
          go_quiet (fail)
          go_wp2_with (at_builtin; go_loud (refine wpList_append_S (M := NoM) rfl (.tmp 91) (.tmp 97) 28 rfl 24 tyItems _ rfl (hoo _ _ _ _ own) _ rfl (hrd _) eItem_one (L.length) 1 rfl rfl hb1 hb2 ?_; intro a1 cap1 w5 O1 hown1 hk1 hn1))
          have F := FIN.out (L ++ [x]) a1 cap1 O1 w5 (by rw [HLEN2.out]; exact hown1) HL2.out (kd _ _ _ hk1) (nd _ _ _ hn1)
          rw [HLEN2.out] at F
          go_roundw
          case rel => exact F
          case measure => simp [intOf]; omega
      · obtain rfl : k = items.length := by omega
        have hltf : decide ((items.length : Int) < items.length) = false := decide_eq_false (by omega)
        have hLF : L = FL := by
          rw [List.drop_length] at hap
          exact hap
        obtain ⟨cm, hcm⟩ : ∃ cm : Int, cm = max r.conf (min conf2 ((p : Int) + items.length)) := ⟨_, rfl⟩
        obtain ⟨cf, hcf⟩ : ∃ cf : Int, cf = min cm L.length := ⟨_, rfl⟩
        have HCM := Lib.hid hcm
        have HF2 : appendF r ⟨kind, src, dst, ep, p, aep, items, conf2, yes⟩ = (⟨r.id, r.count, r.epoch, r.voted, 1, L, cf, [], []⟩, [{ kind := 4, src := r.id, dst := src, ep := r.epoch, pos := (p : Int) + items.length, aep := 0, items := [], conf := 0, yes := true }]) := by
          rw [HF.out, hcf, hcm, hLF, HFL.out]; rfl
        have HF3 := Lib.hid HF2
        have HCF := Lib.hid hcf
        have rdL : RdItems wr (fun i => i < w.heap.size + 3) (.slice a L.length cap) L := own.rd (fun g hg h => by have := hO g hg; have h : g < w.heap.size + 3 := h; omega)
        obtain ⟨w9, e9, z90, z91, z92, y92, K9, R9⟩ : ∃ w9, wr = putB (putB w9 (w.heap.size + 1) _ 57) w.heap.size _ 32 ∧ w.heap.size < w9.heap.size ∧ w.heap.size + 1 < w9.heap.size ∧ w.heap.size + 2 < w9.heap.size ∧ w9.heap[w.heap.size + 2]? = some _ ∧ Kept NoM w w9 ∧ RdItems w9 (fun i => i < w.heap.size + 3) (.slice a L.length cap) L :=
          ⟨wr, expose2a b1 b0, lt_of_block b0, lt_of_block b1, hz2, b2, hK, rdL⟩
        have KE9 : ∀ a c, Kept NoM w (putB (putB w9 (w.heap.size + 1) a 57) w.heap.size c 32) := fun a c => (K9.putN (b := w.heap.size + 1) (by omega) a 57).putN (b := w.heap.size) (by omega) c 32
        have BE9 : ∀ a c, (putB (putB w9 (w.heap.size + 1) a 57) w.heap.size c 32).heap[w.heap.size + 2]? = some (.cells #[.int .i64 0, .int .i64 0, .int .i64 0, .int .i64 0, .int .i64 0, .slice none 0 0, .int .i64 0, .slice none 0 0, .slice none 0 0, .slice none 0 0, .int .i64 0] 62 (0, 0)) := fun a c => (putB_blk_ne _ _ _ _ _ (by omega)).trans ((putB_blk_ne _ _ _ _ _ (by omega)).trans y92)
        have RE9 : ∀ x c, RdItems (putB (putB w9 (w.heap.size + 1) x 57) w.heap.size c 32) (fun i => i = w.heap.size + 2 ∨ (i < w.heap.size ∧ M i)) (.slice a L.length cap) L := fun x c => (R9.kept (((Kept.refl (fun i => i < w.heap.size + 3) w9).putM (b := w.heap.size + 1) (show w.heap.size + 1 < w.heap.size + 3 by omega) x 57).putM (b := w.heap.size) (show w.heap.size < w.heap.size + 3 by omega) c 32)).mono (fun i _ h => by
          show i < w.heap.size + 3
          rcases h with h | h <;> omega)
        clear b0 b1 b2 hK own rdL hap hlt HF2 hcf hcm d4 d6 hLF K9 R9 y92
        subst e9
        go_upto_region 20 with fail
        go_cut [] from 107 to 114 (fun wx => wx = (putB (putB w9 (w.heap.size + 1) #[.int .i64 kind, .int .i64 src, .int .i64 dst, .int .i64 ep, .int .i64 p, .int .i64 aep, .slice ia items.length icap, .int .i64 conf2, .bool yes] 57) w.heap.size #[.int .i64 r.id, .int .i64 r.count, .int .i64 r.epoch, .int .i64 r.voted, .int .i64 1, .slice a L.length cap, .int .i64 cm, .slice none 0 0, .slice none 0 0] 32))
        case first =>
          go_wp2
          all_goals
            go_meet
            refine congrArg (fun v => (putB (putB w9 (w.heap.size + 1) #[.int .i64 kind, .int .i64 src, .int .i64 dst, .int .i64 ep, .int .i64 p, .int .i64 aep, .slice ia items.length icap, .int .i64 conf2, .bool yes] 57) w.heap.size #[.int .i64 r.id, .int .i64 r.count, .int .i64 r.epoch, .int .i64 r.voted, .int .i64 1, .slice a L.length cap, .int .i64 v, .slice none 0 0, .slice none 0 0] 32)) ?_
            have := HCM.out
            omega
        case rest =>
          obtain rfl := hcut
          go_upto_region 21 with fail
          go_cut [] from 115 to 121 (fun wx => wx = (putB (putB w9 (w.heap.size + 1) #[.int .i64 kind, .int .i64 src, .int .i64 dst, .int .i64 ep, .int .i64 p, .int .i64 aep, .slice ia items.length icap, .int .i64 conf2, .bool yes] 57) w.heap.size #[.int .i64 r.id, .int .i64 r.count, .int .i64 r.epoch, .int .i64 r.voted, .int .i64 1, .slice a L.length cap, .int .i64 cf, .slice none 0 0, .slice none 0 0] 32))
          case first =>
            go_wp2
            all_goals
              go_meet
              refine congrArg (fun v => (putB (putB w9 (w.heap.size + 1) #[.int .i64 kind, .int .i64 src, .int .i64 dst, .int .i64 ep, .int .i64 p, .int .i64 aep, .slice ia items.length icap, .int .i64 conf2, .bool yes] 57) w.heap.size #[.int .i64 r.id, .int .i64 r.count, .int .i64 r.epoch, .int .i64 r.voted, .int .i64 1, .slice a L.length cap, .int .i64 v, .slice none 0 0, .slice none 0 0] 32)) ?_
              have := HCF.out
              omega
          case rest =>
            obtain rfl := hcut
            go_wp2_with fail
            refine (ranswer_ok ⟨r.id, r.count, r.epoch, r.voted, 1, L, cf, [], []⟩ ⟨kind, src, dst, ep, p, aep, items, conf2, yes⟩ 4 ((p : Int) + items.length) true _ _ _ _ (fun i => i = w.heap.size + 2 ∨ (i < w.heap.size ∧ M i)) _ (RE9 _ _) (RdBools.nil _ _) (RdInts.nil _ _) (hiv.kept (KE9 _ _))).mono ?_
            intro e w6 hs
            obtain ⟨la6, lc6, va6, vc6, ma6, mc6, ta6, tc6, e6, hB6, k6, fin⟩ := hs.store (KE9 _ _) (by simp only [putB_size]; omega) (by omega)
            subst e6
            have b6 := k6.blk (k := w.heap.size + 2) (BE9 _ _) (fun x => x)
            obtain ⟨w7, e7, z7, fin7⟩ : ∃ w7, w6 = putB w7 (w.heap.size + 2) _ 62 ∧ w.heap.size + 2 < w7.heap.size ∧ ∀ c t, RSent _ w _ _ _ _ (putB w7 (w.heap.size + 2) c t) := ⟨w6, putB_self b6, hB6, fin⟩
            subst e7
            clear fin b6
            go_wp2_with fail
            refine bodyPost_ret (v := .agg #[.int .i64 r.id, .int .i64 r.count, .int .i64 r.epoch, .int .i64 r.voted, .int .i64 1, .slice la6 L.length lc6, .int .i64 cf, .slice va6 0 vc6, .slice ma6 0 mc6, .slice ta6 1 tc6, .int .i64 0]) (by simp [results, Tryd.results56, go_sem, z7]) rfl ?_
            rw [HF3.out]
            exact (fin7 _ _).weak
end Go.Proofs.YtgohploghbimlaaDoor
