/- Walk: vote. -/
import Derived.Test.YtgohploghbimlaaDoorKWO
import Derived.Test.YtgohploghbimlaaDoorKOwn
import Derived.BigRegion
set_option linter.unusedVariables false
set_option linter.unusedSimpArgs false
set_option linter.unusedSectionVars false
namespace Go.Proofs.YtgohploghbimlaaDoor
open Go.RowKit
set_option maxHeartbeats 1000000
set_option maxRecDepth 4000
variable [A : Inhabited (Nat → Prop)]

theorem vote_no (D : Nat) (O : Option Nat) (r : Rep) (m : Let) (iv : Value) (ls : List Let) (w : World) (hd : Deed w D O r ls) (hiv : RdItems w (ND D O) iv m.items) (hno : r.role ≠ 2 ∨ m.ep ≠ r.epoch ∨ m.yes = false) :
    Calls Tryd.prog 49 #[.pointer (some ⟨D, 0, none⟩), .agg #[.int .i64 m.kind, .int .i64 m.src, .int .i64 m.dst, .int .i64 m.ep, .int .i64 m.pos, .int .i64 m.aep, iv, .int .i64 m.conf, .bool m.yes]] w fun e w' => e = .returned (.tuple #[]) ∧ DStep D O w (voteF r m).1 (ls ++ (voteF r m).2) w' := by
  have hF := Lib.hid (show voteF r m = (r, []) by unfold voteF; rw [if_pos hno])
  obtain ⟨ia, icap, rfl, _, _⟩ := hiv.shape
  have dd := Lib.hid hd
  obtain ⟨lv, vv, mv, tv, hD, hlv, hvv, hmv, hown, hOD⟩ := hd
  have hDs := lt_of_block hD
  obtain ⟨w0, e0, qlv, qvv, qmv, qown, zD⟩ : ∃ w0, w = putB w0 D _ 77 ∧ RdItems w0 (ND D O) _ r.log ∧ RdBools w0 (ND D O) vv r.votes ∧ RdInts w0 (ND D O) mv r.mat ∧ OwnS w0 O 57 9 (ELet w0 (ND D O)) _ ls ∧ D < w0.heap.size :=
    ⟨w, putB_self hD, hlv, hvv, hmv, hown, hDs⟩
  subst e0
  clear hlv hvv hmv hown hDs hD
  have fin : ∀ L n, DStep D O (putB w0 D #[.int .i64 r.id, .int .i64 r.count, .int .i64 r.epoch, .int .i64 r.voted, .int .i64 r.role, lv, .int .i64 r.conf, vv, mv, tv] 77) (voteF r m).1 (ls ++ (voteF r m).2) (((putB w0 D #[.int .i64 r.id, .int .i64 r.count, .int .i64 r.epoch, .int .i64 r.voted, .int .i64 r.role, lv, .int .i64 r.conf, vv, mv, tv] 77).alloc L).drewN n) := by
    intro L n
    rw [hF.out]
    simp only [List.append_nil]
    exact ⟨O, dd.out.kept0 (((Kept.refl _ _).alloc L).drewN n), ((Kept.refl _ _).alloc L).drewN n, NewO.refl _ _⟩
  have FIN := Lib.hid fin
  clear fin
  by_cases h1 : r.role = 2
  · have t1 : (r.role != 2) = false := by rw [bne_eq_false_iff_eq]; exact h1
    by_cases h2 : m.ep = r.epoch
    · have t2 : (m.ep != r.epoch) = false := by rw [bne_eq_false_iff_eq]; exact h2
      have h3 : m.yes = false := by
        rcases hno with h | h | h
        · exact absurd h1 h
        · exact absurd h2 h
        · exact h
      clear hno h1 h2
      go_enter Tryd.func49, Tryd.ntmps49
      go_wp2_with fail
      go_quiet (fail)
      go_wp2_with fail
      refine bodyPost_ret (results_none rfl _ _ _) rfl ?_
      exact ⟨rfl, FIN.out _ _⟩
    · have t2 : (m.ep != r.epoch) = true := by rw [bne_iff_ne]; exact h2
      clear hno h1 h2
      go_enter Tryd.func49, Tryd.ntmps49
      go_wp2_with fail
      go_quiet (fail)
      go_wp2_with fail
      refine bodyPost_ret (results_none rfl _ _ _) rfl ?_
      exact ⟨rfl, FIN.out _ _⟩
  · have t1 : (r.role != 2) = true := by rw [bne_iff_ne]; exact h1
    clear hno h1
    go_enter Tryd.func49, Tryd.ntmps49
    go_wp2_with fail
    go_quiet (fail)
    go_wp2_with fail
    refine bodyPost_ret (results_none rfl _ _ _) rfl ?_
    exact ⟨rfl, FIN.out _ _⟩

theorem vote_yes (D : Nat) (O : Option Nat) (r : Rep) (m : Let) (iv : Value) (ls : List Let) (w : World) (hd : Deed w D O r ls) (hiv : RdItems w (ND D O) iv m.items) (h1 : r.role = 2) (h2 : m.ep = r.epoch) (h3 : m.yes = true)
    (hs0 : 0 ≤ m.src) (hs1 : m.src < r.votes.length) (hvl : r.votes.length ≤ 1000) (hc1 : 1 ≤ r.count) (hc2 : r.count ≤ 1000) (hi0 : 0 ≤ r.id) (hi1 : r.id < r.count) (hll : r.log.length ≤ 10000) (hsl : ls.length ≤ 90000) :
    Calls Tryd.prog 49 #[.pointer (some ⟨D, 0, none⟩), .agg #[.int .i64 m.kind, .int .i64 m.src, .int .i64 m.dst, .int .i64 m.ep, .int .i64 m.pos, .int .i64 m.aep, iv, .int .i64 m.conf, .bool m.yes]] w fun e w' => e = .returned (.tuple #[]) ∧ DStep D O w (voteF r m).1 (ls ++ (voteF r m).2) w' := by
  have t1 : (r.role != 2) = false := by rw [bne_eq_false_iff_eq]; exact h1
  have t2 : (m.ep != r.epoch) = false := by rw [bne_eq_false_iff_eq]; exact h2
  obtain ⟨id, count, epoch, voted, role, log, conf, votes, mat⟩ := r
  obtain ⟨kind, src, dst, ep, pos, aep, items, conf2, yes⟩ := m
  simp only at *
  obtain ⟨j, rfl⟩ := Int.eq_ofNat_of_zero_le hs0
  obtain ⟨vs, hvs⟩ : ∃ vs : List Bool, vs = votes.set j true := ⟨_, rfl⟩
  obtain ⟨r1, hr1⟩ : ∃ r1 : Rep, r1 = ⟨id, count, epoch, voted, role, log, conf, vs, mat⟩ := ⟨_, rfl⟩
  have hF : voteF ⟨id, count, epoch, voted, role, log, conf, votes, mat⟩ ⟨kind, j, dst, ep, pos, aep, items, conf2, yes⟩ = if 2 * countT vs > count then leadF r1 else (r1, []) := by
    unfold voteF; rw [if_neg (by simp [h1, h2, h3]), hr1, hvs]; rfl
  have hvsl : vs.length = votes.length := by rw [hvs]; simp
  have HF := Lib.hid hF
  have HVS := Lib.hid hvs
  have HR1 := Lib.hid hr1
  have HVL := Lib.hid hvsl
  clear hF hvs hr1 h1 h2 hvsl
  subst h3
  obtain ⟨ia, icap, rfl, _, _⟩ := hiv.shape
  obtain ⟨lv, vv, mv, tv, hD, hlv, hvv, hmv, hown, hOD⟩ := hd
  have hDs := lt_of_block hD
  obtain ⟨w0, e0, qlv, qvv, qmv, qown, zD⟩ : ∃ w0, w = putB w0 D _ 77 ∧ RdItems w0 (ND D O) _ log ∧ RdBools w0 (ND D O) vv votes ∧ RdInts w0 (ND D O) mv mat ∧ OwnS w0 O 57 9 (ELet w0 (ND D O)) _ ls ∧ D < w0.heap.size :=
    ⟨w, putB_self hD, hlv, hvv, hmv, hown, hDs⟩
  subst e0
  clear hlv hvv hmv hown hDs hD hiv
  have hbl : votes.length ≤ 1000000000 := by omega
  go_enter Tryd.func49, Tryd.ntmps49
  go_wp2_with fail
  go_quiet (fail)
  go_wp2_with fail
  refine (clone64_ok _ votes (ND D O) _ (qvv.kept (((Kept.refl _ _).putM (.inl rfl) _ _).alloc _ |>.drewN _)) hbl).mono ?_
  rintro e w1 ⟨ca, ccap, Oc, rfl, hoc, hnc, hkc⟩
  obtain ⟨g, gcap, cur, e1, rfl, hg, hgc, hgm, hgs, hgt⟩ := hoc.open1 (f := Value.bool) (fun c x h => h) (by omega)
  simp only [Value.slice.injEq] at e1
  obtain ⟨rfl, _, rfl⟩ := e1
  have hgD : w0.heap.size + 1 ≤ g := by
    rcases hnc with h | ⟨g', h, hg2⟩
    · cases h
    · cases h; simpa using hg2
  have hgl := lt_of_block hg
  have bD := hkc.blk (k := D) (blk_drewN (blk_old (putB_blk _ _ _ _ zD) _) _) (fun x => x)
  have bB := hkc.blk (k := w0.heap.size) (blk_drewN (blk_new' _ _ _ (by simp)) _) (fun x => x)
  have hgd : ¬ D = g := by omega
  have hDg : D < g := by omega
  have hgb : ¬ w0.heap.size = g := by omega
  have hbd : ¬ w0.heap.size = D := by omega
  have K1 : Kept (fun k => k = D) w0 w1 := (((Kept.refl (fun k => k = D) w0).putM (b := D) rfl _ _).alloc _ |>.drewN _).trans hkc.of_no
  obtain ⟨w2, e2, z1, z2, z3, k2⟩ : ∃ w2, w1 = putB (putB (putB w2 w0.heap.size _ 57) D _ 77) g cur 4 ∧ w0.heap.size < w2.heap.size ∧ D < w2.heap.size ∧ g < w2.heap.size ∧ Kept (fun k => k = D) w0 w2 :=
    ⟨w1, by rw [← putB_self bB, ← putB_self bD]; exact putB_self hg, by omega, by omega, by omega, K1⟩
  subst e2
  clear bD bB hg hgl hoc hnc hkc K1
  have hlj : votes.length ≤ cur.size := by omega
  have hcj : ∃ b, cur[j]? = some (Value.bool b) := ⟨_, take_at hgt (List.getElem?_eq_getElem (by omega))⟩
  obtain ⟨b0, hcj⟩ := hcj
  have hjv : (j : Int) < votes.length := hs1
  obtain ⟨c2, hset⟩ : ∃ c2, cur.setIfInBounds j (Value.bool true) = c2 := ⟨_, rfl⟩
  have ht2 : c2.toList.take votes.length = vs.map Value.bool := by
    rw [← hset, HVS.out]; exact take_set hgt j true
  have hs2 : c2.size = cur.size := by rw [← hset]; simp
  have HT2 := Lib.hid ht2
  have HS2 := Lib.hid hs2
  clear hgt ht2 hs2
  have cs : ∀ k, (vs.take k).countP (· == true) ≤ k := fun k => Nat.le_trans List.countP_le_length (by simp; omega)
  have CS := Lib.hid cs; clear cs
  go_wp2_with fail
  go_region
  go_wp2_with fail
  have bgW : (putB (putB (putB w2 w0.heap.size #[.int .i64 kind, .int .i64 j, .int .i64 dst, .int .i64 ep, .int .i64 pos, .int .i64 aep, .slice ia items.length icap, .int .i64 conf2, .bool true] 57) D #[.int .i64 id, .int .i64 count, .int .i64 epoch, .int .i64 voted, .int .i64 role, lv, .int .i64 conf, .slice (some ⟨g, 0, none⟩) votes.length ccap, mv, tv] 77) g c2 4).drew.heap[g]? = some (.cells c2 4 (0, 0)) := blk_drew (putB_blk _ _ _ _ (by simp [z3]))
  have bDW : (putB (putB (putB w2 w0.heap.size #[.int .i64 kind, .int .i64 j, .int .i64 dst, .int .i64 ep, .int .i64 pos, .int .i64 aep, .slice ia items.length icap, .int .i64 conf2, .bool true] 57) D #[.int .i64 id, .int .i64 count, .int .i64 epoch, .int .i64 voted, .int .i64 role, lv, .int .i64 conf, .slice (some ⟨g, 0, none⟩) votes.length ccap, mv, tv] 77) g c2 4).drew.heap[D]? = some (.cells #[.int .i64 id, .int .i64 count, .int .i64 epoch, .int .i64 voted, .int .i64 role, lv, .int .i64 conf, .slice (some ⟨g, 0, none⟩) votes.length ccap, mv, tv] 77 (0, 0)) := blk_drew ((putB_blk_ne _ _ _ _ _ hgd).trans (putB_blk _ _ _ _ (by simp [z2])))
  have kW : Kept (fun k => k = D) w0 (putB (putB (putB w2 w0.heap.size #[.int .i64 kind, .int .i64 j, .int .i64 dst, .int .i64 ep, .int .i64 pos, .int .i64 aep, .slice ia items.length icap, .int .i64 conf2, .bool true] 57) D #[.int .i64 id, .int .i64 count, .int .i64 epoch, .int .i64 voted, .int .i64 role, lv, .int .i64 conf, .slice (some ⟨g, 0, none⟩) votes.length ccap, mv, tv] 77) g c2 4).drew :=
    (((k2.putN (b := w0.heap.size) (Nat.le_refl _) _ _).putM (b := D) rfl _ _).putN (b := g) (by omega) _ _).drew
  generalize (putB (putB (putB w2 w0.heap.size #[.int .i64 kind, .int .i64 j, .int .i64 dst, .int .i64 ep, .int .i64 pos, .int .i64 aep, .slice ia items.length icap, .int .i64 conf2, .bool true] 57) D #[.int .i64 id, .int .i64 count, .int .i64 epoch, .int .i64 voted, .int .i64 role, lv, .int .i64 conf, .slice (some ⟨g, 0, none⟩) votes.length ccap, mv, tv] 77) g c2 4).drew = W at *
  have rdW : RdBools W (ND D O) (.slice (some ⟨g, 0, none⟩) votes.length ccap) vs := by
    refine (OwnS.close1 (f := Value.bool) (fun x => rfl) bgW votes.length HVL.out (by omega) (by omega) (by rw [HS2.out]; omega) HT2.out).rd ?_
    intro g' h
    cases h
    rintro (h | h | h)
    · omega
    · have := qown.lt _ h.symm; omega
    · omega
  have dW : Deed W D O r1 ls := by
    rw [HR1.out]
    have K2 : Kept (ND D O) w0 W := kW.mono fun _ _ h => .inl h
    exact ⟨_, _, _, _, bDW, qlv.kept K2, rdW, qmv.kept K2, qown.kept kW (fun g hg h => hOD (by rw [hg, h])) (fun _ _ h => h.kept K2), hOD⟩
  clear bgW bDW
  go_loop [4, 52] (fun n i => ∃ k : Nat, k ≤ votes.length ∧ i = .int .i64 k ∧ n = .int .i64 (countT (vs.take k))) (fun _ i => votes.length - (intOf i).toNat)
  case atStart => exact ⟨0, Nat.zero_le _, rfl, by simp [countT]⟩
  case round =>
    obtain ⟨k, hk, rfl, rfl⟩ := hrel
    by_cases hlt : k < votes.length
    · obtain ⟨x, hx⟩ := get_at (xs := vs) (k := k) (by rw [HVL.out]; exact hlt)
      obtain ⟨xb, xoff, e0, _, xlt, hck⟩ := rdW.at hx
      simp only [Option.some.injEq, Addr.mk.injEq] at e0
      obtain ⟨rfl, rfl, _⟩ := e0
      rw [Nat.zero_add] at hck
      have hst : countT (vs.take (k + 1)) = countT (vs.take k) + if x = true then 1 else 0 := by
        unfold countT
        rw [List.take_add_one, hx]
        cases x <;> simp
      have HS := Lib.hid hst; clear hst hx
      have hb1 := CS.out k
      have hb0 : 0 ≤ countT (vs.take k) ∧ countT (vs.take k) ≤ k := by unfold countT; omega
      clear hb1
      generalize countT (vs.take k) = t at *
      have hk2 : (k : Int) < votes.length := by omega
      cases x
      · go_wp2
        go_round
        case rel => exact ⟨k + 1, by omega, by go_num, by rw [HS.out]; simp⟩
        case measure => simp [intOf]; omega
      · go_wp2
        go_round
        case rel => exact ⟨k + 1, by omega, by go_num, by rw [HS.out]; simp⟩
        case measure => simp [intOf]; omega
    · obtain rfl : k = votes.length := by omega
      have hct : countT (vs.take votes.length) = countT vs := by rw [← HVL.out, List.take_length]
      rw [hct]
      have hb0 : 0 ≤ countT vs ∧ countT vs ≤ 1000 := by
        have := CS.out votes.length
        rw [← HVL.out, List.take_length] at this
        have := HVL.out
        unfold countT; omega
      have HB0 := Lib.hid hb0
      clear hct hb0
      go_wp2_with fail
      refine (wins_ok D (countT vs) count HB0.out.1 (by have := HB0.out; omega) _ (by have := dW.c01.2; rw [HR1.out] at this; exact this)).mono ?_
      rintro e w5 ⟨rfl, rfl⟩
      by_cases hw : 2 * countT vs > count
      · have hF2 := Lib.hid (HF.out.trans (if_pos hw))
        go_wp2_with fail
        refine (lead_ok D O r1 ls W dW (by rw [HR1.out]; exact hc1) (by rw [HR1.out]; exact hc2) (by rw [HR1.out]; exact hi0) (by rw [HR1.out]; exact hi1) (by rw [HR1.out]; exact hll) hsl).mono ?_
        rintro e w6 ⟨rfl, hst⟩
        go_wp2_with fail
        go_end0
        rw [hF2.out]
        exact ⟨rfl, DStep.behind ((kW.mono (fun _ _ h => .inl h)).offB (.inl rfl)) (NewO.refl _ _) hst⟩
      · have hF2 := Lib.hid (HF.out.trans (if_neg hw))
        have hwf := decide_eq_false hw
        clear hw
        go_wp2_with fail
        go_end0
        rw [hF2.out]
        refine ⟨rfl, ?_⟩
        simp only [List.append_nil]
        exact ⟨O, dW, (kW.mono (fun _ _ h => .inl h)).offB (.inl rfl), NewO.refl _ _⟩
end Go.Proofs.YtgohploghbimlaaDoor
