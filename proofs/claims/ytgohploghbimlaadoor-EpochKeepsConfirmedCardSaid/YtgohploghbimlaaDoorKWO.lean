/- Walks: ask, vote. -/
import Derived.Test.YtgohploghbimlaaDoorKWM
import Derived.BigQuiet
import Derived.Deep.QuietTactic
import Derived.Deep.CutRange
import Derived.Deep.DeepCutAuto
set_option linter.unusedVariables false
set_option linter.unusedSimpArgs false
set_option linter.unusedSectionVars false
namespace Go.Proofs.YtgohploghbimlaaDoor
open Go.RowKit
set_option maxHeartbeats 1000000
set_option maxRecDepth 4000
variable [A : Inhabited (Nat → Prop)]

/-- the deed in a world where only its own block has turned -/
theorem Deed.mk0 {w0 W : World} {D : Nat} {O : Option Nat} {r : Rep} {ls : List Let} {lv vv mv tv : Value} (hOD : O ≠ some D)
    (K : Kept (fun k => k = D) w0 W) (hb : W.heap[D]? = some (.cells #[.int .i64 r.id, .int .i64 r.count, .int .i64 r.epoch, .int .i64 r.voted, .int .i64 r.role, lv, .int .i64 r.conf, vv, mv, tv] 77 (0, 0)))
    (qlv : RdItems w0 (ND D O) lv r.log) (qvv : RdBools w0 (ND D O) vv r.votes) (qmv : RdInts w0 (ND D O) mv r.mat)
    (qown : OwnS w0 O 57 9 (ELet w0 (ND D O)) tv ls) : Deed W D O r ls := by
  have K2 : Kept (ND D O) w0 W := K.mono fun _ _ h => .inl h
  exact ⟨lv, vv, mv, tv, hb, qlv.kept K2, qvv.kept K2, qmv.kept K2, qown.kept K (fun g hg h => hOD (by rw [hg, h])) (fun _ _ h => h.kept K2), hOD⟩

theorem ask_ok (D : Nat) (O : Option Nat) (r : Rep) (m : Let) (iv : Value) (ls : List Let) (w : World) (hd : Deed w D O r ls) (hiv : RdItems w (ND D O) iv m.items) (hll : r.log.length ≤ 1000000) (hl : ls.length ≤ 90000) :
    Calls Tryd.prog 48 #[.pointer (some ⟨D, 0, none⟩), .agg #[.int .i64 m.kind, .int .i64 m.src, .int .i64 m.dst, .int .i64 m.ep, .int .i64 m.pos, .int .i64 m.aep, iv, .int .i64 m.conf, .bool m.yes]] w fun e w' => e = .returned (.tuple #[]) ∧ DStep D O w (askF r m).1 (ls ++ (askF r m).2) w' := by
  obtain ⟨ia, icap, rfl, _, _⟩ := hiv.shape
  have dd := Lib.hid hd
  obtain ⟨lv, vv, mv, tv, hD, hlv, hvv, hmv, hown, hOD⟩ := hd
  obtain ⟨la, lcap, rfl, hlc, hlm⟩ := hlv.shape
  have hDs := lt_of_block hD
  obtain ⟨w0, e0, qlv, qvv, qmv, qown, zD⟩ : ∃ w0, w = putB w0 D _ 77 ∧ RdItems w0 (ND D O) _ r.log ∧ RdBools w0 (ND D O) vv r.votes ∧ RdInts w0 (ND D O) mv r.mat ∧ OwnS w0 O 57 9 (ELet w0 (ND D O)) _ ls ∧ D < w0.heap.size :=
    ⟨w, putB_self hD, hlv, hvv, hmv, hown, hDs⟩
  subst e0
  clear hlv hvv hmv hown hDs hD
  have hlast := fun o => last_ok (.slice la r.log.length lcap) r.log (ND D O) ((putB w0 D #[.int .i64 r.id, .int .i64 r.count, .int .i64 r.epoch, .int .i64 r.voted, .int .i64 r.role, .slice la r.log.length lcap, .int .i64 r.conf, vv, mv, tv] 77).alloc o) (qlv.kept (((Kept.refl _ _).putM (.inl rfl) _ _).alloc o)) (by omega)
  obtain ⟨own, hown⟩ : ∃ own, own = lastF r.log := ⟨_, rfl⟩
  obtain ⟨nw, hnw⟩ : ∃ nw : Bool, nw = decide (own < m.aep ∨ (m.aep = own ∧ (r.log.length : Int) ≤ m.pos)) := ⟨_, rfl⟩
  obtain ⟨y, hy⟩ : ∃ y : Bool, y = decide (m.ep = r.epoch ∧ (r.voted = -1 ∨ r.voted = m.src) ∧ nw = true) := ⟨_, rfl⟩
  have hyes : askYes r m = y := by
    unfold askYes; rw [hy, hnw, hown]; simp only [decide_eq_true_eq]
  have hF : askF r m = ((if y then { r with voted := m.src } else r), [{ kind := 2, src := r.id, dst := m.src, ep := r.epoch, pos := 0, aep := 0, items := [], conf := 0, yes := y }]) := by
    unfold askF; rw [hyes]
  rw [← hown] at hlast
  have HF := Lib.hid hF
  have HY := Lib.hid hy
  have HN := Lib.hid hnw
  clear hF hy hown hnw hyes
  go_enter Tryd.func48, Tryd.ntmps48
  go_upto_region 1 with fail
  go_wp2_with fail
  refine (hlast _).mono ?_
  rintro e w1 ⟨rfl, rfl⟩
  go_upto_region 2 with fail
  go_cut [5] from 13 to 34 (fun c wx => c = .bool nw ∧ ∃ n, wx = World.drewN (World.alloc (putB w0 D #[.int .i64 r.id, .int .i64 r.count, .int .i64 r.epoch, .int .i64 r.voted, .int .i64 r.role, .slice la r.log.length lcap, .int .i64 r.conf, vv, mv, tv] 77) (.cells #[.int .i64 m.kind, .int .i64 m.src, .int .i64 m.dst, .int .i64 m.ep, .int .i64 m.pos, .int .i64 m.aep, .slice ia m.items.length icap, .int .i64 m.conf, .bool m.yes] 57)) n)
  case first =>
    by_cases e1 : own < m.aep
    · have hn := Lib.hid (show nw = true by rw [HN.out]; exact decide_eq_true (.inl e1))
      go_quiet (fail)
      go_wp2
      go_meet
      exact ⟨congrArg Value.bool hn.out.symm, _, rfl⟩
    have ne1 := decide_eq_false e1
    by_cases e2 : m.aep = own
    · have t2 : (m.aep == own) = true := by rw [beq_iff_eq]; exact e2
      by_cases e3 : (r.log.length : Int) ≤ m.pos
      · have hn := Lib.hid (show nw = true by rw [HN.out]; exact decide_eq_true (.inr ⟨e2, e3⟩))
        clear e2
        go_quiet (fail)
        go_wp2
        go_meet
        exact ⟨congrArg Value.bool hn.out.symm, _, rfl⟩
      · have hn := Lib.hid (show nw = false by rw [HN.out]; exact decide_eq_false (fun h => h.elim e1 (fun h => e3 h.2)))
        have ne3 := decide_eq_false e3
        clear e2
        go_quiet (fail)
        go_wp2
        go_meet
        exact ⟨congrArg Value.bool hn.out.symm, _, rfl⟩
    · have t2 : (m.aep == own) = false := by rw [beq_eq_false_iff_ne]; exact e2
      have hn := Lib.hid (show nw = false by rw [HN.out]; exact decide_eq_false (fun h => h.elim e1 (fun h => e2 h.1)))
      clear e2
      go_quiet (fail)
      go_wp2
      go_meet
      exact ⟨congrArg Value.bool hn.out.symm, _, rfl⟩
  case rest =>
    obtain ⟨rfl, n2, rfl⟩ := hcut
    go_upto_region 3 with fail
    go_cut [6] from 34 to 63 (fun c wx => c = .bool y ∧ ∃ n, wx = World.drewN (World.alloc (putB w0 D #[.int .i64 r.id, .int .i64 r.count, .int .i64 r.epoch, .int .i64 r.voted, .int .i64 r.role, .slice la r.log.length lcap, .int .i64 r.conf, vv, mv, tv] 77) (.cells #[.int .i64 m.kind, .int .i64 m.src, .int .i64 m.dst, .int .i64 m.ep, .int .i64 m.pos, .int .i64 m.aep, .slice ia m.items.length icap, .int .i64 m.conf, .bool m.yes] 57)) n)
    case first =>
      by_cases e1 : m.ep = r.epoch
      · have t1 : (m.ep == r.epoch) = true := by rw [beq_iff_eq]; exact e1
        by_cases e2 : r.voted = -1
        · have t2 : (r.voted == -1) = true := by rw [beq_iff_eq]; exact e2
          have hn := Lib.hid (show y = nw by rw [HY.out]; cases nw <;> simp [e1, e2])
          clear e1 e2
          go_quiet (fail)
          go_wp2
          go_meet
          exact ⟨congrArg Value.bool hn.out.symm, _, World.drewN_drewN _ _ _⟩
        · have t2 : (r.voted == -1) = false := by rw [beq_eq_false_iff_ne]; exact e2
          by_cases e3 : r.voted = m.src
          · have t3 : (r.voted == m.src) = true := by rw [beq_iff_eq]; exact e3
            have hn := Lib.hid (show y = nw by rw [HY.out]; cases nw <;> simp [e1, e2, e3])
            clear e1 e2 e3
            go_quiet (fail)
            go_wp2
            go_meet
            exact ⟨congrArg Value.bool hn.out.symm, _, World.drewN_drewN _ _ _⟩
          · have t3 : (r.voted == m.src) = false := by rw [beq_eq_false_iff_ne]; exact e3
            have hn := Lib.hid (show y = false by rw [HY.out]; exact decide_eq_false (fun h => h.2.1.elim e2 e3))
            clear e1 e2 e3
            go_quiet (fail)
            go_wp2
            go_meet
            exact ⟨congrArg Value.bool hn.out.symm, _, World.drewN_drewN _ _ _⟩
      · have t1 : (m.ep == r.epoch) = false := by rw [beq_eq_false_iff_ne]; exact e1
        have hn := Lib.hid (show y = false by rw [HY.out]; exact decide_eq_false (fun h => e1 h.1))
        clear e1
        go_quiet (fail)
        go_wp2
        go_meet
        exact ⟨congrArg Value.bool hn.out.symm, _, World.drewN_drewN _ _ _⟩
    case rest =>
      obtain ⟨rfl, n3, rfl⟩ := hcut
      have Kw : ∀ c L L2 n, Kept (fun k => k = D) w0 ((((putB w0 D c 77).alloc L).drewN n).alloc L2) := fun c L L2 n => ((((Kept.refl (fun k => k = D) w0).putM (b := D) rfl c 77).alloc L).drewN n).alloc L2
      have bw : ∀ c L L2 n, ((((putB w0 D c 77).alloc L).drewN n).alloc L2).heap[D]? = some (.cells c 77 (0, 0)) := fun c L L2 n => blk_old (blk_drewN (blk_old (putB_blk _ _ _ _ zD) _) _) _
      have bl : ∀ c L L2 n, ((((putB w0 D c 77).alloc L).drewN n).alloc L2).heap[w0.heap.size + 1]? = some L2 := fun c L L2 n => blk_new' _ _ _ (by simp)
      have hbM : ¬ MD D O (w0.heap.size + 1) := by
        rintro (h | h)
        · omega
        · have := qown.lt _ h.symm; omega
      cases y
      · go_wp2_with fail
        refine (send_ok D O r ls _ (Deed.mk0 hOD (Kw _ _ _ _) (bw _ _ _ _) qlv qvv qmv qown) ⟨2, 0, m.src, 0, 0, 0, [], 0, false⟩ _ _ (bl _ _ _ _) (RdItems.nil _ _) hbM (by omega)).mono ?_
        rintro e w5 ⟨rfl, hst, _⟩
        go_wp2
        go_end0
        refine ⟨rfl, ?_⟩
        rw [HF.out]
        exact DStep.behind (((Kw _ _ _ _).mono (fun _ _ h => .inl h)).offB (.inl rfl)) (NewO.refl _ _) hst
      · go_wp2_with fail
        refine (send_ok D O { r with voted := m.src } ls _ (Deed.mk0 hOD (Kw _ _ _ _) (bw _ _ _ _) qlv qvv qmv qown) ⟨2, 0, m.src, 0, 0, 0, [], 0, true⟩ _ _ (bl _ _ _ _) (RdItems.nil _ _) hbM (by omega)).mono ?_
        rintro e w5 ⟨rfl, hst, _⟩
        go_wp2
        go_end0
        refine ⟨rfl, ?_⟩
        rw [HF.out]
        exact DStep.behind (((Kw _ _ _ _).mono (fun _ _ h => .inl h)).offB (.inl rfl)) (NewO.refl _ _) hst
end Go.Proofs.YtgohploghbimlaaDoor
