/- Walk: reply. -/
import Derived.Test.YtgohploghbimlaaDoorKWO
import Derived.Test.YtgohploghbimlaaDoorKWJ
import Derived.Test.YtgohploghbimlaaDoorKOwn
import Derived.BigRegion
import Derived.Deep.CutRange
import Derived.Deep.DeepCutAuto
set_option linter.unusedVariables false
set_option linter.unusedSimpArgs false
set_option linter.unusedSectionVars false
namespace Go.Proofs.YtgohploghbimlaaDoor
open Go.RowKit
set_option maxHeartbeats 1000000
set_option maxRecDepth 4000
variable [A : Inhabited (Nat → Prop)]

theorem reply_no (D : Nat) (O : Option Nat) (r : Rep) (m : Let) (iv : Value) (ls : List Let) (w : World) (hd : Deed w D O r ls) (hiv : RdItems w (ND D O) iv m.items) (hno : r.role ≠ 3 ∨ m.ep ≠ r.epoch ∨ m.yes = false) :
    Calls Tryd.prog 51 #[.pointer (some ⟨D, 0, none⟩), .agg #[.int .i64 m.kind, .int .i64 m.src, .int .i64 m.dst, .int .i64 m.ep, .int .i64 m.pos, .int .i64 m.aep, iv, .int .i64 m.conf, .bool m.yes]] w fun e w' => e = .returned (.tuple #[]) ∧ DStep D O w (replyF r m).1 (ls ++ (replyF r m).2) w' := by
  have hF := Lib.hid (show replyF r m = (r, []) by unfold replyF; rw [if_pos hno])
  obtain ⟨ia, icap, rfl, _, _⟩ := hiv.shape
  have dd := Lib.hid hd
  obtain ⟨lv, vv, mv, tv, hD, hlv, hvv, hmv, hown, hOD⟩ := hd
  have hDs := lt_of_block hD
  obtain ⟨w0, e0, qlv, qvv, qmv, qown, zD⟩ : ∃ w0, w = putB w0 D _ 77 ∧ RdItems w0 (ND D O) _ r.log ∧ RdBools w0 (ND D O) vv r.votes ∧ RdInts w0 (ND D O) mv r.mat ∧ OwnS w0 O 57 9 (ELet w0 (ND D O)) _ ls ∧ D < w0.heap.size :=
    ⟨w, putB_self hD, hlv, hvv, hmv, hown, hDs⟩
  subst e0
  clear hlv hvv hmv hown hDs hD
  have fin : ∀ L n, DStep D O (putB w0 D #[.int .i64 r.id, .int .i64 r.count, .int .i64 r.epoch, .int .i64 r.voted, .int .i64 r.role, lv, .int .i64 r.conf, vv, mv, tv] 77) (replyF r m).1 (ls ++ (replyF r m).2) (((putB w0 D #[.int .i64 r.id, .int .i64 r.count, .int .i64 r.epoch, .int .i64 r.voted, .int .i64 r.role, lv, .int .i64 r.conf, vv, mv, tv] 77).alloc L).drewN n) := by
    intro L n
    rw [hF.out]
    simp only [List.append_nil]
    exact ⟨O, dd.out.kept0 (((Kept.refl _ _).alloc L).drewN n), ((Kept.refl _ _).alloc L).drewN n, NewO.refl _ _⟩
  have FIN := Lib.hid fin
  clear fin
  by_cases h1 : r.role = 3
  · have t1 : (r.role != 3) = false := by rw [bne_eq_false_iff_eq]; exact h1
    by_cases h2 : m.ep = r.epoch
    · have t2 : (m.ep != r.epoch) = false := by rw [bne_eq_false_iff_eq]; exact h2
      have h3 : m.yes = false := by
        rcases hno with h | h | h
        · exact absurd h1 h
        · exact absurd h2 h
        · exact h
      clear hno h1 h2
      go_enter Tryd.func51, Tryd.ntmps51
      go_wp2_with fail
      go_quiet (fail)
      go_wp2_with fail
      refine bodyPost_ret (results_none rfl _ _ _) rfl ?_
      exact ⟨rfl, FIN.out _ _⟩
    · have t2 : (m.ep != r.epoch) = true := by rw [bne_iff_ne]; exact h2
      clear hno h1 h2
      go_enter Tryd.func51, Tryd.ntmps51
      go_wp2_with fail
      go_quiet (fail)
      go_wp2_with fail
      refine bodyPost_ret (results_none rfl _ _ _) rfl ?_
      exact ⟨rfl, FIN.out _ _⟩
  · have t1 : (r.role != 3) = true := by rw [bne_iff_ne]; exact h1
    clear hno h1
    go_enter Tryd.func51, Tryd.ntmps51
    go_wp2_with fail
    go_quiet (fail)
    go_wp2_with fail
    refine bodyPost_ret (results_none rfl _ _ _) rfl ?_
    exact ⟨rfl, FIN.out _ _⟩

theorem reads58 {w : World} {D : Nat} {O : Option Nat} {r : Rep} {ls : List Let} {log : List Item} {ms : List Int} {j n : Nat} {x : Int} (h : Deed w D O r ls) (hl : r.log = log) (hm : r.mat = ms) (hx : ms[j]? = some x) (hn : ms.length = n) :
    ∃ la lcap mb moff mcap, w.cell? ⟨D, 5, none⟩ = some (.slice la log.length lcap) ∧ w.cell? ⟨D, 8, none⟩ = some (.slice (some ⟨mb, moff, none⟩) n mcap) ∧ w.cell? ⟨mb, moff + j, none⟩ = some (.int .i64 x) ∧ ¬ mb = D ∧ mb < w.heap.size := by
  obtain ⟨lv5, vv5, mv5, tv5, hD5, hlv5, hvv5, hmv5, hown5, hOD5⟩ := h
  subst hl hm hn
  obtain ⟨la5, lcap5, rfl, _, _⟩ := hlv5.shape
  obtain ⟨ma5, mcap5, rfl, _, _⟩ := hmv5.shape
  obtain ⟨mb, moff, rfl, hmM, mlt, cm⟩ := hmv5.at hx
  exact ⟨la5, lcap5, mb, moff, mcap5, cell_blk hD5 5 _ rfl, cell_blk hD5 8 _ rfl, cm, fun h => hmM (.inl h), mlt⟩

theorem reply_yes (D : Nat) (O : Option Nat) (r : Rep) (m : Let) (iv : Value) (ls : List Let) (w : World) (hd : Deed w D O r ls) (hiv : RdItems w (ND D O) iv m.items) (h1 : r.role = 3) (h2 : m.ep = r.epoch) (h3 : m.yes = true)
    (hs0 : 0 ≤ m.src) (hs1 : m.src < r.mat.length) (hp0 : 0 ≤ m.pos) (hmc : (r.mat.length : Int) = r.count) (hmat : ∀ x ∈ r.mat, 0 ≤ x ∧ x ≤ r.log.length) (hc1 : 1 ≤ r.count) (hc2 : r.count ≤ 1000) (hll : r.log.length ≤ 10000) (hsl : ls.length ≤ 90000) :
    Calls Tryd.prog 51 #[.pointer (some ⟨D, 0, none⟩), .agg #[.int .i64 m.kind, .int .i64 m.src, .int .i64 m.dst, .int .i64 m.ep, .int .i64 m.pos, .int .i64 m.aep, iv, .int .i64 m.conf, .bool m.yes]] w fun e w' => e = .returned (.tuple #[]) ∧ DStep D O w (replyF r m).1 (ls ++ (replyF r m).2) w' := by
  have t1 : (r.role != 3) = false := by rw [bne_eq_false_iff_eq]; exact h1
  have t2 : (m.ep != r.epoch) = false := by rw [bne_eq_false_iff_eq]; exact h2
  obtain ⟨id, count, epoch, voted, role, log, conf, votes, mat⟩ := r
  obtain ⟨kind, src, dst, ep, pos, aep, items, conf2, yes⟩ := m
  simp only at *
  obtain ⟨j, rfl⟩ := Int.eq_ofNat_of_zero_le hs0
  obtain ⟨y, hy⟩ := get_at (xs := mat) (k := j) (by omega)
  have hyb := hmat y (List.mem_of_getElem? hy)
  obtain ⟨x, hx⟩ : ∃ x : Int, x = max y (min pos log.length) := ⟨_, rfl⟩
  have hxb : 0 ≤ x ∧ x ≤ log.length := by omega
  obtain ⟨ms, hms⟩ : ∃ ms : List Int, ms = mat.set j x := ⟨_, rfl⟩
  have hmsb : ∀ z ∈ ms, 0 ≤ z ∧ z ≤ log.length := by
    intro z hz
    rw [hms] at hz
    rcases List.mem_or_eq_of_mem_set hz with h | h
    · exact hmat z h
    · rw [h]; exact hxb
  have hmj : ms[j]? = some x := by rw [hms, List.getElem?_set_self (by omega)]
  obtain ⟨r1, hr1⟩ : ∃ r1 : Rep, r1 = ⟨id, count, epoch, voted, role, log, conf, votes, ms⟩ := ⟨_, rfl⟩
  have hF : replyF ⟨id, count, epoch, voted, role, log, conf, votes, mat⟩ ⟨kind, j, dst, ep, pos, aep, items, conf2, yes⟩ = (settleF r1, if x < log.length then [logLet (settleF r1) j] else []) := by
    unfold replyF
    rw [if_neg (by simp [h1, h2, h3]), hr1, hms, hx]
    simp [List.getD, hy]
  have hmsl : ms.length = mat.length := by rw [hms]; simp
  have HF := Lib.hid hF
  have HMS := Lib.hid hms
  have HR1 := Lib.hid hr1
  have HML := Lib.hid hmsl
  have HX := Lib.hid hx
  have HMC := Lib.hid hmc
  have HMB := Lib.hid hmsb
  have HMJ := Lib.hid hmj
  clear hF hms hr1 h1 h2 hmsl hmc hmsb hmj hmat
  subst h3
  obtain ⟨ia, icap, rfl, _, _⟩ := hiv.shape
  obtain ⟨lv, vv, mv, tv, hD, hlv, hvv, hmv, hown, hOD⟩ := hd
  obtain ⟨la, lcap, rfl, _, _⟩ := hlv.shape
  have hDs := lt_of_block hD
  obtain ⟨w0, e0, qlv, qvv, qmv, qown, zD⟩ : ∃ w0, w = putB w0 D _ 77 ∧ RdItems w0 (ND D O) _ log ∧ RdBools w0 (ND D O) vv votes ∧ RdInts w0 (ND D O) mv mat ∧ OwnS w0 O 57 9 (ELet w0 (ND D O)) _ ls ∧ D < w0.heap.size :=
    ⟨w, putB_self hD, hlv, hvv, hmv, hown, hDs⟩
  subst e0
  clear hlv hvv hmv hown hDs hD hiv
  have hbl : mat.length ≤ 1000000000 := by have := HMC.out; omega
  have HY := Lib.hid hy
  clear hy hx
  go_enter Tryd.func51, Tryd.ntmps51
  go_wp2_with fail
  go_quiet (fail)
  go_wp2_with fail
  refine (clone59_ok _ mat (ND D O) _ (qmv.kept (((Kept.refl _ _).putM (.inl rfl) _ _).alloc _ |>.drewN _)) hbl).mono ?_
  rintro e w1 ⟨ca, ccap, Oc, rfl, hoc, hnc, hkc⟩
  obtain ⟨g, gcap, cur, e1, rfl, hg, hgc, hgm, hgs, hgt⟩ := hoc.open1 (f := Value.int .i64) (fun c x h => h) (by omega)
  simp only [Value.slice.injEq] at e1
  obtain ⟨rfl, _, rfl⟩ := e1
  have hgD : w0.heap.size + 1 ≤ g := by
    rcases hnc with h | ⟨g', h, hg2⟩
    · cases h
    · cases h; simpa using hg2
  have hgl := lt_of_block hg
  have bD := hkc.blk (k := D) (blk_drewN (blk_old (putB_blk _ _ _ _ zD) _) _) (fun x => x)
  have bB := hkc.blk (k := w0.heap.size) (blk_drewN (blk_new' _ _ _ (by simp)) _) (fun x => x)
  have hgd : ¬ D = g := by omega
  have hDg : D < g := by omega
  have hgb : ¬ w0.heap.size = g := by omega
  have hbd : ¬ w0.heap.size = D := by omega
  have K1 : Kept (fun k => k = D) w0 w1 := (((Kept.refl (fun k => k = D) w0).putM (b := D) rfl _ _).alloc _ |>.drewN _).trans hkc.of_no
  obtain ⟨w2, e2, z1, z2, z3, k2⟩ : ∃ w2, w1 = putB (putB (putB w2 w0.heap.size _ 57) D _ 77) g cur 3 ∧ w0.heap.size < w2.heap.size ∧ D < w2.heap.size ∧ g < w2.heap.size ∧ Kept (fun k => k = D) w0 w2 :=
    ⟨w1, by rw [← putB_self bB, ← putB_self bD]; exact putB_self hg, by omega, by omega, by omega, K1⟩
  subst e2
  clear bD bB hg hgl hoc hnc hkc K1
  have hlj : mat.length ≤ cur.size := by omega
  have hcj : cur[j]? = some (Value.int .i64 y) := take_at hgt HY.out
  have hjv : (j : Int) < mat.length := hs1
  obtain ⟨c2, hset⟩ : ∃ c2, cur.setIfInBounds j (Value.int .i64 x) = c2 := ⟨_, rfl⟩
  have ht2 : c2.toList.take mat.length = ms.map (Value.int .i64) := by
    rw [← hset, HMS.out]; exact take_set hgt j x
  have hs2 : c2.size = cur.size := by rw [← hset]; simp
  have HT2 := Lib.hid ht2
  have HS2 := Lib.hid hs2
  have HSET := Lib.hid hset
  clear hgt ht2 hs2 hset
  go_upto_region 3 with fail
  go_cut [] from 35 to 61 (fun wx => wx = (putB (putB (putB w2 w0.heap.size #[.int .i64 kind, .int .i64 j, .int .i64 dst, .int .i64 ep, .int .i64 pos, .int .i64 aep, .slice ia items.length icap, .int .i64 conf2, .bool true] 57) D #[.int .i64 id, .int .i64 count, .int .i64 epoch, .int .i64 voted, .int .i64 role, .slice la log.length lcap, .int .i64 conf, vv, .slice (some ⟨g, 0, none⟩) mat.length ccap, tv] 77) g c2 3).drew)
  case first =>
    go_region
    go_wp2
    all_goals
      go_meet
      refine congrArg World.drew (congrArg (fun c => putB _ g c 3) ?_)
      rw [← HSET.out]
      refine congrArg (fun v => cur.setIfInBounds j (Value.int .i64 v)) ?_
      have := HX.out
      omega
  case rest =>
    obtain rfl := hcut
    clear hcj hlj
    go_wp2_with fail
    have bgW : (putB (putB (putB w2 w0.heap.size #[.int .i64 kind, .int .i64 j, .int .i64 dst, .int .i64 ep, .int .i64 pos, .int .i64 aep, .slice ia items.length icap, .int .i64 conf2, .bool true] 57) D #[.int .i64 id, .int .i64 count, .int .i64 epoch, .int .i64 voted, .int .i64 role, .slice la log.length lcap, .int .i64 conf, vv, .slice (some ⟨g, 0, none⟩) mat.length ccap, tv] 77) g c2 3).drew.heap[g]? = some (.cells c2 3 (0, 0)) := blk_drew (putB_blk _ _ _ _ (by simp [z3]))
    have bDW : (putB (putB (putB w2 w0.heap.size #[.int .i64 kind, .int .i64 j, .int .i64 dst, .int .i64 ep, .int .i64 pos, .int .i64 aep, .slice ia items.length icap, .int .i64 conf2, .bool true] 57) D #[.int .i64 id, .int .i64 count, .int .i64 epoch, .int .i64 voted, .int .i64 role, .slice la log.length lcap, .int .i64 conf, vv, .slice (some ⟨g, 0, none⟩) mat.length ccap, tv] 77) g c2 3).drew.heap[D]? = some (.cells #[.int .i64 id, .int .i64 count, .int .i64 epoch, .int .i64 voted, .int .i64 role, .slice la log.length lcap, .int .i64 conf, vv, .slice (some ⟨g, 0, none⟩) mat.length ccap, tv] 77 (0, 0)) := blk_drew ((putB_blk_ne _ _ _ _ _ hgd).trans (putB_blk _ _ _ _ (by simp [z2])))
    have bBW : (putB (putB (putB w2 w0.heap.size #[.int .i64 kind, .int .i64 j, .int .i64 dst, .int .i64 ep, .int .i64 pos, .int .i64 aep, .slice ia items.length icap, .int .i64 conf2, .bool true] 57) D #[.int .i64 id, .int .i64 count, .int .i64 epoch, .int .i64 voted, .int .i64 role, .slice la log.length lcap, .int .i64 conf, vv, .slice (some ⟨g, 0, none⟩) mat.length ccap, tv] 77) g c2 3).drew.heap[w0.heap.size]? = some (.cells #[.int .i64 kind, .int .i64 j, .int .i64 dst, .int .i64 ep, .int .i64 pos, .int .i64 aep, .slice ia items.length icap, .int .i64 conf2, .bool true] 57 (0, 0)) := blk_drew ((putB_blk_ne _ _ _ _ _ hgb).trans ((putB_blk_ne _ _ _ _ _ hbd).trans (putB_blk _ _ _ _ (by simp [z1]))))
    have kW : Kept (fun k => k = D) w0 (putB (putB (putB w2 w0.heap.size #[.int .i64 kind, .int .i64 j, .int .i64 dst, .int .i64 ep, .int .i64 pos, .int .i64 aep, .slice ia items.length icap, .int .i64 conf2, .bool true] 57) D #[.int .i64 id, .int .i64 count, .int .i64 epoch, .int .i64 voted, .int .i64 role, .slice la log.length lcap, .int .i64 conf, vv, .slice (some ⟨g, 0, none⟩) mat.length ccap, tv] 77) g c2 3).drew :=
      (((k2.putN (b := w0.heap.size) (Nat.le_refl _) _ _).putM (b := D) rfl _ _).putN (b := g) (by omega) _ _).drew
    generalize (putB (putB (putB w2 w0.heap.size #[.int .i64 kind, .int .i64 j, .int .i64 dst, .int .i64 ep, .int .i64 pos, .int .i64 aep, .slice ia items.length icap, .int .i64 conf2, .bool true] 57) D #[.int .i64 id, .int .i64 count, .int .i64 epoch, .int .i64 voted, .int .i64 role, .slice la log.length lcap, .int .i64 conf, vv, .slice (some ⟨g, 0, none⟩) mat.length ccap, tv] 77) g c2 3).drew = W at *
    have rdW : RdInts W (ND D O) (.slice (some ⟨g, 0, none⟩) mat.length ccap) ms := by
      refine (OwnS.close1 (f := Value.int .i64) (fun x => rfl) bgW mat.length HML.out (by omega) (by omega) (by rw [HS2.out]; omega) HT2.out).rd ?_
      intro g' h
      cases h
      rintro (h | h | h)
      · omega
      · have := qown.lt _ h.symm; omega
      · omega
    have dW : Deed W D O r1 ls := by
      rw [HR1.out]
      have K2 : Kept (ND D O) w0 W := kW.mono fun _ _ h => .inl h
      exact ⟨_, _, _, _, bDW, qlv.kept K2, qvv.kept K2, rdW, qown.kept kW (fun g hg h => hOD (by rw [hg, h])) (fun _ _ h => h.kept K2), hOD⟩
    clear bgW bDW
    refine (settle_ok D O r1 ls W dW (by rw [HR1.out]; dsimp only; rw [HML.out]; exact HMC.out) (by rw [HR1.out]; exact hc1) (by rw [HR1.out]; exact hc2) (by rw [HR1.out]; exact HMB.out) (by rw [HR1.out]; exact hll)).mono ?_
    rintro e w5 ⟨rfl, O5, d5, k5, n5⟩
    have sk := settleF_keeps r1
    obtain ⟨r5, hr5⟩ : ∃ r5, r5 = settleF r1 := ⟨_, rfl⟩
    rw [← hr5] at d5 HF sk
    have hsk : r5.mat = ms ∧ r5.log = log := by rw [sk.2.2.2.1, sk.2.2.1, HR1.out]; exact ⟨rfl, rfl⟩
    clear hr5 sk
    have bB5 := k5.blk bBW (by
      rintro (h | h)
      · omega
      · have := qown.lt _ h.symm; omega)
    have hz5 : w0.heap.size < w5.heap.size := lt_of_block bB5
    have D5 := Lib.hid d5
    have HSK := Lib.hid hsk
    obtain ⟨la5, lcap5, mb, moff, mcap5, c5D, c8D, cm, hmD, mlt⟩ := reads58 d5 hsk.2 hsk.1 HMJ.out HML.out
    clear hsk bBW
    have c1B := cell_blk bB5 1 _ rfl
    have KW := Lib.hid kW
    have QL := Lib.hid qown
    have NU := Lib.hid n5
    have K5 := Lib.hid k5
    clear d5 bB5 kW rdW dW z1 z2 z3 k2 qlv qvv qmv qown zD hgD hgd hDg hgb n5 k5 hjv hxb hyb
    go_wp2_with fail
    go_quiet (fail)
    have KX : Kept (MD D O) (putB w0 D #[.int .i64 id, .int .i64 count, .int .i64 epoch, .int .i64 voted, .int .i64 role, .slice la log.length lcap, .int .i64 conf, vv, mv, tv] 77) w5 := ((KW.out.mono (fun _ _ h => .inl h)).offB (.inl rfl)).trans K5.out
    have NX : NewO (putB w0 D #[.int .i64 id, .int .i64 count, .int .i64 epoch, .int .i64 voted, .int .i64 role, .slice la log.length lcap, .int .i64 conf, vv, mv, tv] 77) O O5 := NU.out.of_le (by rw [putB_size]; exact KW.out.size)
    have HKX := Lib.hid KX
    have HNX := Lib.hid NX
    clear KX NX
    by_cases hlt : x < log.length
    · have hF2 := Lib.hid (HF.out.trans (by rw [if_pos hlt]))
      go_wp2_with fail
      refine (log_ok D O5 r5 ls _ (D5.out.kept0 (((Kept.refl _ _).alloc _).drewN _)) _ [(j : Int)] (rd_one (blk_drewN (blk_new' _ _ _ rfl) _) (D5.out.out _ (Nat.le_refl _)) rfl rfl) ?_ ?_ ?_ (by simp) hsl).mono ?_
      · intro k hk
        simp only [List.mem_singleton] at hk
        subst hk
        rw [HSK.out.1, HML.out]
        omega
      · rw [HSK.out.1, HSK.out.2]; exact HMB.out
      · rw [HSK.out.2]; exact hll
      rintro e w6 ⟨rfl, hst⟩
      go_wp2
      go_end0
      rw [hF2.out]
      exact ⟨rfl, DStep.behind ((HKX.out.alloc _).drewN _) HNX.out hst⟩
    · have hF2 := Lib.hid (HF.out.trans (by rw [if_neg hlt]))
      have hlf := decide_eq_false hlt
      go_wp2_with fail
      go_end0
      rw [hF2.out]
      refine ⟨rfl, ?_⟩
      simp only [List.append_nil]
      exact ⟨O5, D5.out.kept0 ((Kept.refl _ _).drewN _), HKX.out.drewN _, HNX.out⟩
end Go.Proofs.YtgohploghbimlaaDoor
