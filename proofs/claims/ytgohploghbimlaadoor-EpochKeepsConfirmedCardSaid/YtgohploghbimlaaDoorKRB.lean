/- Walks of the specification: appending. -/
import Derived.Test.YtgohploghbimlaaDoorKWE
import Derived.Deep.RegionLawGrows
set_option linter.unusedVariables false
set_option linter.unusedSimpArgs false
set_option linter.unusedSectionVars false
namespace Go.Proofs.YtgohploghbimlaaDoor
open Go.RowKit
set_option maxHeartbeats 1000000
set_option maxRecDepth 4000

theorem lastF_take {l : List Item} {n : Nat} {x : Item} (hx : l[n]? = some x) : lastF (l.take (n + 1)) = x.ep := by
  have hn := (List.getElem?_eq_some_iff.1 hx).1
  unfold lastF
  rw [List.getLast?_eq_getElem?, List.length_take, List.getElem?_take, show min (n + 1) l.length - 1 = n by omega, if_pos (by omega), hx]

theorem slice_more {l : List Item} {p k : Nat} {x : Item} (hp : p ≤ k) (hx : l[k]? = some x) : (l.take (k + 1)).drop p = (l.take k).drop p ++ [x] := by
  have hn := (List.getElem?_eq_some_iff.1 hx).1
  rw [List.take_add_one, hx, List.drop_append_of_le_length (by simp; omega)]
  rfl

theorem expose2a {w : World} {b1 b2 : Nat} {c1 c2 : Array Value} {e1 e2 : TypeId} (h1 : w.heap[b1]? = some (.cells c1 e1 (0, 0))) (h2 : w.heap[b2]? = some (.cells c2 e2 (0, 0))) : w = putB (putB w b1 c1 e1) b2 c2 e2 := by
  rw [← putB_self h1]; exact putB_self h2
theorem appending_zero (r : Rep) (j p : Nat) (lv vv mv : Value) (w : World) (hlv : RdItems w NoM lv r.log) (hvv : RdBools w NoM vv r.votes) (hmv : RdInts w NoM mv r.mat)
    (hj : r.mat[j]? = some (p : Int)) (hp : p ≤ r.log.length) (hll : r.log.length ≤ 10000) (hk : p = 0) :
    Calls Tryd.prog 63 #[.agg #[.int .i64 r.id, .int .i64 r.count, .int .i64 r.epoch, .int .i64 r.voted, .int .i64 r.role, lv, .int .i64 r.conf, vv, mv], .int .i64 j] w fun e w' =>
      ∃ iv, e = .returned (.agg #[.int .i64 3, .int .i64 r.id, .int .i64 j, .int .i64 r.epoch, .int .i64 p, .int .i64 (lastF (r.log.take p)), iv, .int .i64 r.conf, .bool false]) ∧ RdItems w' (fun k => k < w.heap.size) iv ((r.log.take (min r.log.length (p + 50))).drop p) ∧ Kept NoM w w' := by
  subst hk
  obtain ⟨la, lcap, rfl, hlc, hlm⟩ := hlv.shape
  obtain ⟨va, vcap, rfl, _, _⟩ := hvv.shape
  obtain ⟨ma, mcap, rfl, _, _⟩ := hmv.shape
  obtain ⟨mb, moff, rfl, _, mlt, mc⟩ := hmv.at hj
  have hjl := (List.getElem?_eq_some_iff.1 hj).1
  have hjv : (j : Int) < r.mat.length := by omega
  obtain ⟨rl, hrl⟩ : ∃ n, n = r.log.length := ⟨_, rfl⟩
  have K3 : ∀ a b c, Kept NoM w (((w.alloc a).alloc b).alloc c) := fun a b c => (((Kept.refl NoM w).alloc a).alloc b).alloc c
  have HJ := Lib.hid hj
  clear hj

  go_enter Tryd.func63, Tryd.ntmps63
  go_wp2

  go_loopw [7] (fun i wr => ∃ k : Nat, 0 ≤ k ∧ k ≤ r.log.length ∧ k ≤ 0 + 50 ∧ i = .int .i64 k ∧ ∃ iv O,
    wr.heap[w.heap.size]? = some (.cells #[.int .i64 r.id, .int .i64 r.count, .int .i64 r.epoch, .int .i64 r.voted, .int .i64 r.role, .slice la r.log.length lcap, .int .i64 r.conf, .slice va r.votes.length vcap, .slice (some ⟨mb, moff, none⟩) r.mat.length mcap] 32 (0, 0)) ∧
    wr.heap[w.heap.size + 1]? = some (.cells #[.int .i64 0, .int .i64 0, .int .i64 0, .int .i64 0, .int .i64 0, .int .i64 0, .slice none 0 0, .int .i64 0, .bool false] 57 (0, 0)) ∧
    wr.heap[w.heap.size + 2]? = some (.cells #[.int .i64 3, .int .i64 r.id, .int .i64 j, .int .i64 r.epoch, .int .i64 0, .int .i64 (lastF (r.log.take 0)), iv, .int .i64 r.conf, .bool false] 57 (0, 0)) ∧
    OwnS wr O 45 2 EItem iv ((r.log.take k).drop 0) ∧ (∀ g, O = some g → w.heap.size + 3 ≤ g) ∧ Kept NoM w wr) (fun i _ => 0 + 50 - (intOf i).toNat)
  case atStart =>
    refine ⟨0, Nat.le_refl _, hp, by omega, by simp, .slice none 0 0, none, ?_, ?_, ?_, ?_, by simp, K3 _ _ _⟩
    · exact blk_old (blk_old (blk_new' _ _ _ (by simp)) _) _
    · exact blk_old (blk_new' _ _ _ (by simp)) _
    · exact blk_new' _ _ _ (by simp)
    · rw [List.drop_eq_nil_of_le (by simp <;> omega)]; exact OwnS.nil _ _ _ _
  case round =>
    obtain ⟨k, hpk, hkl, hk50, rfl, iv, O, b0, b1, b2, own, hO, hK⟩ := hrel
    obtain ⟨ia, icap, rfl, _, _, _, _⟩ := own.shape
    have s2 := lt_of_block b2
    have c05 := cell_blk b0 5 _ rfl
    by_cases hlt : k < r.log.length
    · have hlti : (k : Int) < r.log.length := by omega
      by_cases h50 : k < 0 + 50
      · have h50i : (k : Int) < ((0 : Nat) : Int) + 50 := by omega
        obtain ⟨x, hx⟩ := get_at hlt
        obtain ⟨b, off, e1, _, hbl, x0, x1⟩ := hlv.at hx
        subst e1
        have x0 := hK.cell x0 (fun h => h)
        have x1 := hK.cell x1 (fun h => h)
        have hsl : ((r.log.take k).drop 0).length ≤ 10000 := by simp; omega
        have hmore := slice_more hpk hx
        obtain ⟨w0, e0, y0, y1, q05, qx0, qx1, qown, z2, K0⟩ : ∃ w0, wr = putB w0 (w.heap.size + 2) _ 57 ∧ w0.heap[w.heap.size]? = some _ ∧ w0.heap[w.heap.size + 1]? = some _ ∧ w0.cell? ⟨w.heap.size, 5, none⟩ = some _ ∧ w0.cell? _ = some _ ∧ w0.cell? _ = some _ ∧ OwnS w0 O 45 2 EItem _ _ ∧ w.heap.size + 2 < w0.heap.size ∧ Kept NoM w w0 :=
          ⟨wr, putB_self b2, b0, b1, c05, x0, x1, own, s2, hK⟩
        subst e0
        have Y0 := Lib.hid y0
        have Y1 := Lib.hid y1
        clear b0 b1 b2 c05 x0 x1 own hK hx y0 y1
        have HMORE := Lib.hid hmore
        clear hmore
        generalize hL : ((r.log.take k).drop 0) = L at *
        have kk : ∀ c o, Kept (fun k => k = w.heap.size + 2) w0 (((putB w0 (w.heap.size + 2) c 57).alloc o).drew) := fun c o => (((Kept.refl (fun k => k = w.heap.size + 2) w0).putM (b := w.heap.size + 2) rfl _ _).alloc _).drew
        have bB : ∀ c o, (((putB w0 (w.heap.size + 2) c 57).alloc o).drew).heap[w.heap.size + 2]? = some (.cells c 57 (0, 0)) := fun c o => blk_drew (blk_old (putB_blk _ _ _ _ z2) _)
        have bN : ∀ c o, (((putB w0 (w.heap.size + 2) c 57).alloc o).drew).heap[w0.heap.size]? = some o := fun c o => blk_drew (blk_new' _ _ _ (by simp))
        have hOB : ∀ g, O = some g → ¬ g = w.heap.size + 2 := fun g hg => by have := hO g hg; omega
        have hbB : ¬ b = w.heap.size + 2 := by omega
        go_wp2_with fail
        go_region_law (refine step_append_S (M := NoM) (E := EItem) rfl (.tmp 47) (.tmp 53) 28 rfl 24 tyItems _ rfl (qown.kept (kk _ _) hOB (fun _ _ h => h)) _ rfl (rd_one (x := x) (bN _ _) (fun h => h) rfl rfl) eItem_one L.length 1 rfl rfl (by unfold maxLen; omega) (by omega) ?_; intro a1 cap1 w1 O1 hown1 hk1 hn1; have hz1 := hk1.size; simp at hz1; obtain ⟨w2, e2, own2, k2, hz2, hz3⟩ : ∃ w2, w1 = putB w2 (w.heap.size + 2) _ 57 ∧ OwnS w2 O1 45 2 EItem _ _ ∧ Kept (fun k => some k = O) _ w2 ∧ w.heap.size + 2 < w2.heap.size ∧ w0.heap.size + 1 ≤ w2.heap.size := ⟨w1, putB_self (hk1.blk (bB _ _) (fun h => hOB _ h.symm rfl)), hown1, hk1, by omega, by omega⟩; subst e2)
        all_goals
          go_wp2
          have NO : ∀ i, i < w.heap.size → some i = O → NoM i := fun i hi h => by have := hO i h.symm; omega
          have K2 : Kept NoM w w2 := (((K0.putN (b := w.heap.size + 2) (by omega) _ 57).alloc _).drew).trans' k2 NO
          have K3 : Kept (fun k => k = w.heap.size + 2 ∨ some k = O) w0 w2 := ((kk _ _).mono (fun _ _ h => .inl h)).trans (k2.mono (fun _ _ h => .inr h))
          have nb : ∀ i, i < w.heap.size + 2 → ¬ (i = w.heap.size + 2 ∨ some i = O) := by
            rintro i hi (h | h)
            · omega
            · have := hO i h.symm; omega
          have hO1 : ∀ g, O1 = some g → w.heap.size + 3 ≤ g := by
            intro g hg
            rcases hn1 with rfl | ⟨g', rfl, hg2⟩
            · exact hO g hg
            · cases hg; simp at hg2; omega
          go_roundw
          case rel =>
            refine ⟨k + 1, by omega, by omega, by omega, by go_num, .slice a1 (L.length + 1) cap1, O1, ?_, ?_, ?_, ?_, hO1, K2.putN (by omega) _ _⟩
            · rw [putB_blk_ne _ _ _ _ _ (by omega)]; exact K3.blk Y0.out (nb _ (by omega))
            · rw [putB_blk_ne _ _ _ _ _ (by omega)]; exact K3.blk Y1.out (nb _ (by omega))
            · exact putB_blk _ _ _ _ hz2
            · rw [HMORE.out]
              exact own2.kept (M := fun k => k = w.heap.size + 2) ((Kept.refl (fun k => k = w.heap.size + 2) w2).putM (b := w.heap.size + 2) rfl _ _) (fun g hg h => by have := hO1 g hg; omega) (fun _ _ h => h)
          case measure => simp [intOf]; omega
      · have h50f : decide ((k : Int) < ((0 : Nat) : Int) + 50) = false := decide_eq_false (by omega)
        obtain ⟨w4, e4, z1, z2, q05, K4⟩ : ∃ w4, wr = putB (putB w4 (w.heap.size + 1) _ 57) (w.heap.size + 2) _ 57 ∧ w.heap.size + 1 < w4.heap.size ∧ w.heap.size + 2 < w4.heap.size ∧ w4.cell? ⟨w.heap.size, 5, none⟩ = some _ ∧ Kept NoM w w4 := ⟨wr, expose2a b1 b2, by omega, by omega, c05, hK⟩
        subst e4
        obtain rfl : k = min r.log.length (0 + 50) := by omega
        have KE := fun c d => (K4.putN (b := w.heap.size + 1) (by omega) c 57).putN (b := w.heap.size + 2) (by omega) d 57
        have rdE := own.rd (M := fun k => k < w.heap.size + 3) (fun g hg h => by have := hO g hg; omega)
        clear b0 b1 b2 c05 hlv hvv hmv hK
        go_wp2_with fail
        refine bodyPost_ret (v := .agg #[.int .i64 3, .int .i64 r.id, .int .i64 j, .int .i64 r.epoch, .int .i64 0, .int .i64 (lastF (r.log.take 0)), .slice ia ((r.log.take (min r.log.length (0 + 50))).drop 0).length icap, .int .i64 r.conf, .bool false]) (by simp [results, Tryd.results63, go_sem, z1, z2]) rfl ?_
        refine ⟨_, rfl, ?_, KE _ _⟩
        exact RdItems.step rdE (Kept.offB (Kept.offB (((Kept.refl (fun k => k < w.heap.size + 3) w4).putM (b := w.heap.size + 1) (show w.heap.size + 1 < w.heap.size + 3 by omega) _ _).putM (b := w.heap.size + 2) (show w.heap.size + 2 < w.heap.size + 3 by omega) _ _) (show w.heap.size + 1 < w.heap.size + 3 by omega)) (show w.heap.size + 2 < w.heap.size + 3 by omega)) (fun i _ h => show i < w.heap.size + 3 by have h : i < w.heap.size := h; omega)
    · have hltf : decide ((k : Int) < r.log.length) = false := decide_eq_false (by omega)
      obtain ⟨w4, e4, z1, z2, q05, K4⟩ : ∃ w4, wr = putB (putB w4 (w.heap.size + 1) _ 57) (w.heap.size + 2) _ 57 ∧ w.heap.size + 1 < w4.heap.size ∧ w.heap.size + 2 < w4.heap.size ∧ w4.cell? ⟨w.heap.size, 5, none⟩ = some _ ∧ Kept NoM w w4 := ⟨wr, expose2a b1 b2, by omega, by omega, c05, hK⟩
      subst e4
      obtain rfl : k = min r.log.length (0 + 50) := by omega
      have KE := fun c d => (K4.putN (b := w.heap.size + 1) (by omega) c 57).putN (b := w.heap.size + 2) (by omega) d 57
      have rdE := own.rd (M := fun k => k < w.heap.size + 3) (fun g hg h => by have := hO g hg; omega)
      clear b0 b1 b2 c05 hlv hvv hmv hK
      go_wp2_with fail
      refine bodyPost_ret (v := .agg #[.int .i64 3, .int .i64 r.id, .int .i64 j, .int .i64 r.epoch, .int .i64 0, .int .i64 (lastF (r.log.take 0)), .slice ia ((r.log.take (min r.log.length (0 + 50))).drop 0).length icap, .int .i64 r.conf, .bool false]) (by simp [results, Tryd.results63, go_sem, z1, z2]) rfl ?_
      refine ⟨_, rfl, ?_, KE _ _⟩
      exact RdItems.step rdE (Kept.offB (Kept.offB (((Kept.refl (fun k => k < w.heap.size + 3) w4).putM (b := w.heap.size + 1) (show w.heap.size + 1 < w.heap.size + 3 by omega) _ _).putM (b := w.heap.size + 2) (show w.heap.size + 2 < w.heap.size + 3 by omega) _ _) (show w.heap.size + 1 < w.heap.size + 3 by omega)) (show w.heap.size + 2 < w.heap.size + 3 by omega)) (fun i _ h => show i < w.heap.size + 3 by have h : i < w.heap.size := h; omega)

theorem appending_pos (r : Rep) (j p : Nat) (lv vv mv : Value) (w : World) (hlv : RdItems w NoM lv r.log) (hvv : RdBools w NoM vv r.votes) (hmv : RdInts w NoM mv r.mat)
    (hj : r.mat[j]? = some (p : Int)) (hp : p ≤ r.log.length) (hll : r.log.length ≤ 10000) (hk : 0 < p) :
    Calls Tryd.prog 63 #[.agg #[.int .i64 r.id, .int .i64 r.count, .int .i64 r.epoch, .int .i64 r.voted, .int .i64 r.role, lv, .int .i64 r.conf, vv, mv], .int .i64 j] w fun e w' =>
      ∃ iv, e = .returned (.agg #[.int .i64 3, .int .i64 r.id, .int .i64 j, .int .i64 r.epoch, .int .i64 p, .int .i64 (lastF (r.log.take p)), iv, .int .i64 r.conf, .bool false]) ∧ RdItems w' (fun k => k < w.heap.size) iv ((r.log.take (min r.log.length (p + 50))).drop p) ∧ Kept NoM w w' := by
  obtain ⟨q, rfl⟩ : ∃ q, p = q + 1 := ⟨p - 1, by omega⟩
  obtain ⟨la, lcap, rfl, hlc, hlm⟩ := hlv.shape
  obtain ⟨va, vcap, rfl, _, _⟩ := hvv.shape
  obtain ⟨ma, mcap, rfl, _, _⟩ := hmv.shape
  obtain ⟨mb, moff, rfl, _, mlt, mc⟩ := hmv.at hj
  have hjl := (List.getElem?_eq_some_iff.1 hj).1
  have hjv : (j : Int) < r.mat.length := by omega
  obtain ⟨rl, hrl⟩ : ∃ n, n = r.log.length := ⟨_, rfl⟩
  have K3 : ∀ a b c, Kept NoM w (((w.alloc a).alloc b).alloc c) := fun a b c => (((Kept.refl NoM w).alloc a).alloc b).alloc c
  have HJ := Lib.hid hj
  clear hj
  obtain ⟨x0, hx0⟩ := get_at (xs := r.log) (k := q) (by omega)
  obtain ⟨lb, loff, rfl, _, llt, lc0, _⟩ := hlv.at hx0
  have lc3 := fun a b c => (K3 a b c).cell lc0 (fun h => h)
  have hpi : (q : Int) < r.log.length := by omega
  have hLAST : lastF (r.log.take (q + 1)) = x0.ep := lastF_take hx0
  have HL := Lib.hid hLAST
  clear hLAST hx0 hk
  go_enter Tryd.func63, Tryd.ntmps63
  go_wp2

  go_loopw [7] (fun i wr => ∃ k : Nat, q + 1 ≤ k ∧ k ≤ r.log.length ∧ k ≤ q + 1 + 50 ∧ i = .int .i64 k ∧ ∃ iv O,
    wr.heap[w.heap.size]? = some (.cells #[.int .i64 r.id, .int .i64 r.count, .int .i64 r.epoch, .int .i64 r.voted, .int .i64 r.role, .slice (some ⟨lb, loff, none⟩) r.log.length lcap, .int .i64 r.conf, .slice va r.votes.length vcap, .slice (some ⟨mb, moff, none⟩) r.mat.length mcap] 32 (0, 0)) ∧
    wr.heap[w.heap.size + 1]? = some (.cells #[.int .i64 0, .int .i64 0, .int .i64 0, .int .i64 0, .int .i64 0, .int .i64 0, .slice none 0 0, .int .i64 0, .bool false] 57 (0, 0)) ∧
    wr.heap[w.heap.size + 2]? = some (.cells #[.int .i64 3, .int .i64 r.id, .int .i64 j, .int .i64 r.epoch, .int .i64 ((q : Int) + 1), .int .i64 (lastF (r.log.take (q + 1))), iv, .int .i64 r.conf, .bool false] 57 (0, 0)) ∧
    OwnS wr O 45 2 EItem iv ((r.log.take k).drop (q + 1)) ∧ (∀ g, O = some g → w.heap.size + 3 ≤ g) ∧ Kept NoM w wr) (fun i _ => q + 1 + 50 - (intOf i).toNat)
  case atStart =>
    refine ⟨q + 1, Nat.le_refl _, hp, by omega, by simp, .slice none 0 0, none, ?_, ?_, ?_, ?_, by simp, K3 _ _ _⟩
    · exact blk_old (blk_old (blk_new' _ _ _ (by simp)) _) _
    · exact blk_old (blk_new' _ _ _ (by simp)) _
    · rw [HL.out]; exact blk_new' _ _ _ (by simp)
    · rw [List.drop_eq_nil_of_le (by simp <;> omega)]; exact OwnS.nil _ _ _ _
  case round =>
    obtain ⟨k, hpk, hkl, hk50, rfl, iv, O, b0, b1, b2, own, hO, hK⟩ := hrel
    obtain ⟨ia, icap, rfl, _, _, _, _⟩ := own.shape
    have s2 := lt_of_block b2
    have c05 := cell_blk b0 5 _ rfl
    by_cases hlt : k < r.log.length
    · have hlti : (k : Int) < r.log.length := by omega
      by_cases h50 : k < q + 1 + 50
      · have h50i : (k : Int) < ((q + 1 : Nat) : Int) + 50 := by omega
        obtain ⟨x, hx⟩ := get_at hlt
        obtain ⟨b, off, e1, _, hbl, x0, x1⟩ := hlv.at hx
        simp only [Option.some.injEq, Addr.mk.injEq] at e1; obtain ⟨rfl, rfl, _⟩ := e1
        have x0 := hK.cell x0 (fun h => h)
        have x1 := hK.cell x1 (fun h => h)
        have hsl : ((r.log.take k).drop (q + 1)).length ≤ 10000 := by simp; omega
        have hmore := slice_more hpk hx
        obtain ⟨w0, e0, y0, y1, q05, qx0, qx1, qown, z2, K0⟩ : ∃ w0, wr = putB w0 (w.heap.size + 2) _ 57 ∧ w0.heap[w.heap.size]? = some _ ∧ w0.heap[w.heap.size + 1]? = some _ ∧ w0.cell? ⟨w.heap.size, 5, none⟩ = some _ ∧ w0.cell? _ = some _ ∧ w0.cell? _ = some _ ∧ OwnS w0 O 45 2 EItem _ _ ∧ w.heap.size + 2 < w0.heap.size ∧ Kept NoM w w0 :=
          ⟨wr, putB_self b2, b0, b1, c05, x0, x1, own, s2, hK⟩
        subst e0
        have Y0 := Lib.hid y0
        have Y1 := Lib.hid y1
        clear b0 b1 b2 c05 x0 x1 own hK hx y0 y1
        have HMORE := Lib.hid hmore
        clear hmore
        generalize hL : ((r.log.take k).drop (q + 1)) = L at *
        have kk : ∀ c o, Kept (fun k => k = w.heap.size + 2) w0 (((putB w0 (w.heap.size + 2) c 57).alloc o).drew) := fun c o => (((Kept.refl (fun k => k = w.heap.size + 2) w0).putM (b := w.heap.size + 2) rfl _ _).alloc _).drew
        have bB : ∀ c o, (((putB w0 (w.heap.size + 2) c 57).alloc o).drew).heap[w.heap.size + 2]? = some (.cells c 57 (0, 0)) := fun c o => blk_drew (blk_old (putB_blk _ _ _ _ z2) _)
        have bN : ∀ c o, (((putB w0 (w.heap.size + 2) c 57).alloc o).drew).heap[w0.heap.size]? = some o := fun c o => blk_drew (blk_new' _ _ _ (by simp))
        have hOB : ∀ g, O = some g → ¬ g = w.heap.size + 2 := fun g hg => by have := hO g hg; omega
        have hbB : ¬ lb = w.heap.size + 2 := by omega
        go_wp2_with fail
        go_region_law (refine step_append_S (M := NoM) (E := EItem) rfl (.tmp 47) (.tmp 53) 28 rfl 24 tyItems _ rfl (qown.kept (kk _ _) hOB (fun _ _ h => h)) _ rfl (rd_one (x := x) (bN _ _) (fun h => h) rfl rfl) eItem_one L.length 1 rfl rfl (by unfold maxLen; omega) (by omega) ?_; intro a1 cap1 w1 O1 hown1 hk1 hn1; have hz1 := hk1.size; simp at hz1; obtain ⟨w2, e2, own2, k2, hz2, hz3⟩ : ∃ w2, w1 = putB w2 (w.heap.size + 2) _ 57 ∧ OwnS w2 O1 45 2 EItem _ _ ∧ Kept (fun k => some k = O) _ w2 ∧ w.heap.size + 2 < w2.heap.size ∧ w0.heap.size + 1 ≤ w2.heap.size := ⟨w1, putB_self (hk1.blk (bB _ _) (fun h => hOB _ h.symm rfl)), hown1, hk1, by omega, by omega⟩; subst e2)
        all_goals
          go_wp2
          have NO : ∀ i, i < w.heap.size → some i = O → NoM i := fun i hi h => by have := hO i h.symm; omega
          have K2 : Kept NoM w w2 := (((K0.putN (b := w.heap.size + 2) (by omega) _ 57).alloc _).drew).trans' k2 NO
          have K3 : Kept (fun k => k = w.heap.size + 2 ∨ some k = O) w0 w2 := ((kk _ _).mono (fun _ _ h => .inl h)).trans (k2.mono (fun _ _ h => .inr h))
          have nb : ∀ i, i < w.heap.size + 2 → ¬ (i = w.heap.size + 2 ∨ some i = O) := by
            rintro i hi (h | h)
            · omega
            · have := hO i h.symm; omega
          have hO1 : ∀ g, O1 = some g → w.heap.size + 3 ≤ g := by
            intro g hg
            rcases hn1 with rfl | ⟨g', rfl, hg2⟩
            · exact hO g hg
            · cases hg; simp at hg2; omega
          go_roundw
          case rel =>
            refine ⟨k + 1, by omega, by omega, by omega, by go_num, .slice a1 (L.length + 1) cap1, O1, ?_, ?_, ?_, ?_, hO1, K2.putN (by omega) _ _⟩
            · rw [putB_blk_ne _ _ _ _ _ (by omega)]; exact K3.blk Y0.out (nb _ (by omega))
            · rw [putB_blk_ne _ _ _ _ _ (by omega)]; exact K3.blk Y1.out (nb _ (by omega))
            · exact putB_blk _ _ _ _ hz2
            · rw [HMORE.out]
              exact own2.kept (M := fun k => k = w.heap.size + 2) ((Kept.refl (fun k => k = w.heap.size + 2) w2).putM (b := w.heap.size + 2) rfl _ _) (fun g hg h => by have := hO1 g hg; omega) (fun _ _ h => h)
          case measure => simp [intOf]; omega
      · have h50f : decide ((k : Int) < ((q + 1 : Nat) : Int) + 50) = false := decide_eq_false (by omega)
        obtain ⟨w4, e4, z1, z2, q05, K4⟩ : ∃ w4, wr = putB (putB w4 (w.heap.size + 1) _ 57) (w.heap.size + 2) _ 57 ∧ w.heap.size + 1 < w4.heap.size ∧ w.heap.size + 2 < w4.heap.size ∧ w4.cell? ⟨w.heap.size, 5, none⟩ = some _ ∧ Kept NoM w w4 := ⟨wr, expose2a b1 b2, by omega, by omega, c05, hK⟩
        subst e4
        obtain rfl : k = min r.log.length (q + 1 + 50) := by omega
        have KE := fun c d => (K4.putN (b := w.heap.size + 1) (by omega) c 57).putN (b := w.heap.size + 2) (by omega) d 57
        have rdE := own.rd (M := fun k => k < w.heap.size + 3) (fun g hg h => by have := hO g hg; omega)
        clear b0 b1 b2 c05 hlv hvv hmv hK
        go_wp2_with fail
        refine bodyPost_ret (v := .agg #[.int .i64 3, .int .i64 r.id, .int .i64 j, .int .i64 r.epoch, .int .i64 ((q : Int) + 1), .int .i64 (lastF (r.log.take (q + 1))), .slice ia ((r.log.take (min r.log.length (q + 1 + 50))).drop (q + 1)).length icap, .int .i64 r.conf, .bool false]) (by simp [results, Tryd.results63, go_sem, z1, z2]) rfl ?_
        refine ⟨_, rfl, ?_, KE _ _⟩
        exact RdItems.step rdE (Kept.offB (Kept.offB (((Kept.refl (fun k => k < w.heap.size + 3) w4).putM (b := w.heap.size + 1) (show w.heap.size + 1 < w.heap.size + 3 by omega) _ _).putM (b := w.heap.size + 2) (show w.heap.size + 2 < w.heap.size + 3 by omega) _ _) (show w.heap.size + 1 < w.heap.size + 3 by omega)) (show w.heap.size + 2 < w.heap.size + 3 by omega)) (fun i _ h => show i < w.heap.size + 3 by have h : i < w.heap.size := h; omega)
    · have hltf : decide ((k : Int) < r.log.length) = false := decide_eq_false (by omega)
      obtain ⟨w4, e4, z1, z2, q05, K4⟩ : ∃ w4, wr = putB (putB w4 (w.heap.size + 1) _ 57) (w.heap.size + 2) _ 57 ∧ w.heap.size + 1 < w4.heap.size ∧ w.heap.size + 2 < w4.heap.size ∧ w4.cell? ⟨w.heap.size, 5, none⟩ = some _ ∧ Kept NoM w w4 := ⟨wr, expose2a b1 b2, by omega, by omega, c05, hK⟩
      subst e4
      obtain rfl : k = min r.log.length (q + 1 + 50) := by omega
      have KE := fun c d => (K4.putN (b := w.heap.size + 1) (by omega) c 57).putN (b := w.heap.size + 2) (by omega) d 57
      have rdE := own.rd (M := fun k => k < w.heap.size + 3) (fun g hg h => by have := hO g hg; omega)
      clear b0 b1 b2 c05 hlv hvv hmv hK
      go_wp2_with fail
      refine bodyPost_ret (v := .agg #[.int .i64 3, .int .i64 r.id, .int .i64 j, .int .i64 r.epoch, .int .i64 ((q : Int) + 1), .int .i64 (lastF (r.log.take (q + 1))), .slice ia ((r.log.take (min r.log.length (q + 1 + 50))).drop (q + 1)).length icap, .int .i64 r.conf, .bool false]) (by simp [results, Tryd.results63, go_sem, z1, z2]) rfl ?_
      refine ⟨_, rfl, ?_, KE _ _⟩
      exact RdItems.step rdE (Kept.offB (Kept.offB (((Kept.refl (fun k => k < w.heap.size + 3) w4).putM (b := w.heap.size + 1) (show w.heap.size + 1 < w.heap.size + 3 by omega) _ _).putM (b := w.heap.size + 2) (show w.heap.size + 2 < w.heap.size + 3 by omega) _ _) (show w.heap.size + 1 < w.heap.size + 3 by omega)) (show w.heap.size + 2 < w.heap.size + 3 by omega)) (fun i _ h => show i < w.heap.size + 3 by have h : i < w.heap.size := h; omega)

theorem appending_ok (r : Rep) (j : Nat) (lv vv mv : Value) (w : World) (hlv : RdItems w NoM lv r.log) (hvv : RdBools w NoM vv r.votes) (hmv : RdInts w NoM mv r.mat)
    (hj : j < r.mat.length) (hm : ∀ x ∈ r.mat, 0 ≤ x ∧ x ≤ r.log.length) (hll : r.log.length ≤ 10000) :
    Calls Tryd.prog 63 #[.agg #[.int .i64 r.id, .int .i64 r.count, .int .i64 r.epoch, .int .i64 r.voted, .int .i64 r.role, lv, .int .i64 r.conf, vv, mv], .int .i64 j] w fun e w' =>
      ∃ iv, e = .returned (.agg #[.int .i64 3, .int .i64 r.id, .int .i64 j, .int .i64 r.epoch, .int .i64 (logLet r j).pos, .int .i64 (logLet r j).aep, iv, .int .i64 r.conf, .bool false]) ∧ RdItems w' (fun k => k < w.heap.size) iv (logLet r j).items ∧ Kept NoM w w' := by
  obtain ⟨x, hx⟩ := get_at (xs := r.mat) (k := j) hj
  have hb := hm x (List.mem_of_getElem? hx)
  obtain ⟨p, rfl⟩ := Int.eq_ofNat_of_zero_le hb.1
  have e0 : r.mat.getD j 0 = (p : Int) := by simp [List.getD, hx]
  have hL : (logLet r j).pos = p ∧ (logLet r j).aep = lastF (r.log.take p) ∧ (logLet r j).items = (r.log.take (min r.log.length (p + 50))).drop p := by
    unfold logLet
    simp only [e0, Int.toNat_natCast, and_self]
  rw [hL.1, hL.2.1, hL.2.2]
  by_cases hp : p = 0
  · exact appending_zero r j p lv vv mv w hlv hvv hmv hx (by omega) hll hp
  · exact appending_pos r j p lv vv mv w hlv hvv hmv hx (by omega) hll (by omega)
end Go.Proofs.YtgohploghbimlaaDoor
