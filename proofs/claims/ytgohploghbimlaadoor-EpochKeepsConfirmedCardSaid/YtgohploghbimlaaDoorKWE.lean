/- Texts that belong together: WE, RA, RI. -/
import Derived.Test.YtgohploghbimlaaDoorKWA
import Derived.Test.YtgohploghbimlaaDoorKDeed
import Derived.BigQuiet
import Derived.Deep.QuietTactic
set_option linter.unusedVariables false
set_option linter.unusedSimpArgs false
set_option linter.unusedSectionVars false
/- Walks: others, follow, votes. -/
namespace Go.Proofs.YtgohploghbimlaaDoor
open Go.RowKit
set_option maxHeartbeats 400000

theorem othersF_succ (n : Nat) (id : Int) : othersF (n + 1) id = othersF n id ++ if (n : Int) = id then [] else [(n : Int)] := by
  unfold othersF
  rw [List.range_succ, List.map_append, List.filter_append]
  by_cases h : (n : Int) = id <;> simp [h]
theorem othersF_len (n : Nat) (id : Int) : (othersF n id).length ≤ n := by
  unfold othersF
  exact Nat.le_trans (List.length_filter_le _ _) (by simp)

theorem others_ok (D : Nat) (id count : Int) (h0 : 0 ≤ count) (h1 : count ≤ 1000) (w : World) (c0 : w.cell? ⟨D, 0, none⟩ = some (.int .i64 id)) (c1 : w.cell? ⟨D, 1, none⟩ = some (.int .i64 count)) :
    Calls Tryd.prog 37 #[.pointer (some ⟨D, 0, none⟩)] w fun e w' =>
      ∃ v Ox, e = .returned v ∧ OwnS w' Ox 3 1 EInt v (othersF count.toNat id) ∧ NewO w none Ox ∧ Kept NoM w w' := by
  have hDs := World.block_lt_of_cell? w _ c0
  simp only at hDs
  obtain ⟨n, rfl⟩ := Int.eq_ofNat_of_zero_le h0
  simp only [Int.toNat_natCast]
  go_enter Tryd.func37, Tryd.ntmps37
  go_wp2
  go_loopw [3, 10] (fun v i wr => ∃ k : Nat, k ≤ n ∧ i = .int .i64 k ∧ ∃ a cap Ox, v = .slice a (othersF k id).length cap ∧ OwnS wr Ox 3 1 EInt v (othersF k id) ∧ NewO w none Ox ∧ Kept NoM w wr) (fun _ i _ => n - (intOf i).toNat)
  case atStart => exact ⟨0, Nat.zero_le _, rfl, none, 0, none, rfl, OwnS.nil _ _ _ _, NewO.refl _ _, Kept.refl _ _⟩
  case round =>
    obtain ⟨k, hk, rfl, a, cap, Ox, rfl, hown, hnew, hB⟩ := hrel
    have d0 := hB.cell c0 (fun x => x)
    have d1 := hB.cell c1 (fun x => x)
    by_cases hlt : k < n
    · have hl := othersF_len k id
      have hs := othersF_succ k id
      have HS := Lib.hid hs; clear hs
      have hkk : ∀ o, Kept NoM w (wr.alloc o) := fun o => hB.alloc o
      have hoo : ∀ o, OwnS (wr.alloc o) Ox 3 1 EInt (.slice a (othersF k id).length cap) (othersF k id) := fun o => hown.kept ((Kept.refl NoM wr).alloc o) (fun _ _ x => x) (fun _ _ h => h)
      have hnb : ∀ o, (wr.alloc o).heap[wr.heap.size]? = some o := fun o => blk_new wr o
      by_cases hid : (k : Int) = id
      · subst hid
        go_wp2
        go_roundw
        case rel => exact ⟨k + 1, by omega, by go_num, a, cap, Ox, by rw [HS.out]; simp, by rw [HS.out]; simpa using hown, hnew, hB⟩
        case measure => simp [intOf]; omega
      · have hne : ((k : Int) != id) = true := by rw [bne_iff_ne]; exact hid
        go_wp2_with (at_builtin; refine wpList_append_S (M := NoM) rfl (.tmp 20) (.tmp 22) 30 rfl 8 tyInts _ rfl (hoo _) _ rfl (rd_one (x := (k : Int)) (hnb _) (fun h => h) rfl rfl) eInt_one (othersF k id).length 1 rfl rfl (by unfold maxLen; omega) (by omega) ?_; intro a1 cap1 w1 O1 hown1 hk1 hn1)
        have e1 : (othersF (k + 1) id) = othersF k id ++ [(k : Int)] := by rw [HS.out, if_neg hid]
        have n1 : NewO w none O1 := hnew.trans (hn1.of_le (by simp)) hB.size
        have k1 : Kept NoM w w1 := (hkk _).trans' hk1 (fun i hi h => by rcases hnew with rfl | ⟨g, rfl, hg⟩ <;> simp at h; omega)
        go_roundw
        case rel => exact ⟨k + 1, by omega, by go_num, a1, cap1, O1, by rw [e1]; simp, by rw [e1]; exact hown1, n1, k1⟩
        case measure => simp [intOf]; omega
    · obtain rfl : k = n := by omega
      go_wp2
      go_ret
      exact ⟨_, _, rfl, hown, hnew, hB⟩
theorem votes_ok (v : Value) (xs : List Bool) (M : Nat → Prop) (w : World) (hl : RdBools w M v xs) (hn : xs.length ≤ 1000000000) :
    Calls Tryd.prog 68 #[v] w fun e w' => e = .returned (.int .i64 (countT xs)) ∧ w = w' := by
  obtain ⟨a, cap, rfl, hcap, hmx⟩ := hl.shape
  have cs : ∀ k, (xs.take k).countP (· == true) ≤ k := fun k => Nat.le_trans List.countP_le_length (by simp; omega)
  have CS := Lib.hid cs; clear cs
  go_enter Tryd.func68, Tryd.ntmps68
  go_wp2
  go_loop [3, 4] (fun n i => ∃ k : Nat, k ≤ xs.length ∧ i = .int .i64 k ∧ n = .int .i64 (countT (xs.take k))) (fun _ i => xs.length - (intOf i).toNat)
  case atStart => exact ⟨0, Nat.zero_le _, rfl, by simp [countT]⟩
  case round =>
    obtain ⟨k, hk, rfl, rfl⟩ := hrel
    by_cases hlt : k < xs.length
    · obtain ⟨x, hx⟩ := get_at hlt
      obtain ⟨b, off, rfl, hMb, hbs, c0⟩ := hl.at hx
      have hst : countT (xs.take (k + 1)) = countT (xs.take k) + if x = true then 1 else 0 := by
        unfold countT
        rw [List.take_add_one, hx]
        cases x <;> simp
      have HS := Lib.hid hst; clear hst hx hl
      have hb1 := CS.out k
      have hb0 : 0 ≤ countT (xs.take k) ∧ countT (xs.take k) ≤ k := by unfold countT; omega
      clear hb1
      generalize countT (xs.take k) = t at *
      cases x
      · go_wp2
        go_round
        case rel => exact ⟨k + 1, by omega, by go_num, by rw [HS.out]; simp⟩
        case measure => simp [intOf]; omega
      · go_wp2
        go_round
        case rel => exact ⟨k + 1, by omega, by go_num, by rw [HS.out]; simp⟩
        case measure => simp [intOf]; omega
    · obtain rfl : k = xs.length := by omega
      go_wp2
      go_ret
      exact ⟨ret_int (by simp), rfl⟩
variable [A : Inhabited (Nat → Prop)]
theorem follow_ok (D : Nat) (O : Option Nat) (r : Rep) (ls : List Let) (w : World) (hd : Deed w D O r ls) :
    Calls Tryd.prog 47 #[.pointer (some ⟨D, 0, none⟩)] w fun e w' => e = .returned (.tuple #[]) ∧ DStep D O w (followF r) ls w' := by
  obtain ⟨lv, vv, mv, tv, hD, hlv, hvv, hmv, hown, hOD⟩ := hd
  have hDs := lt_of_block hD
  obtain ⟨w0, e0, qlv, qvv, qmv, qown, zD⟩ : ∃ w0, w = putB w0 D _ 77 ∧ RdItems w0 (ND D O) lv r.log ∧ RdBools w0 (ND D O) vv r.votes ∧ RdInts w0 (ND D O) mv r.mat ∧ OwnS w0 O 57 9 (ELet w0 (ND D O)) _ ls ∧ D < w0.heap.size :=
    ⟨w, putB_self hD, hlv, hvv, hmv, hown, hDs⟩
  subst e0
  clear hlv hvv hmv hown hDs hD
  go_enter Tryd.func47, Tryd.ntmps47
  go_wp2
  go_end0
  exact ⟨rfl, DStep.mk0 (r := followF r) zD hOD (keptD _ _ _) (putB_blk _ _ _ _ zD) qlv (RdBools.nil _ _) (RdInts.nil _ _) qown⟩

end Go.Proofs.YtgohploghbimlaaDoor

/- Walks of the specification: follow, answer. -/
namespace Go.Proofs.YtgohploghbimlaaDoor
open Go.RowKit
set_option maxHeartbeats 1000000
set_option maxRecDepth 4000

/-- a replica's value, a letter's value -/
def repV (r : Rep) (lv vv mv : Value) : Value := .agg #[.int .i64 r.id, .int .i64 r.count, .int .i64 r.epoch, .int .i64 r.voted, .int .i64 r.role, lv, .int .i64 r.conf, vv, mv]

/-- what a way of the specification returns: a replica, letters, an error; nothing of it lies in the old blocks M -/
def RSent (M : Nat → Prop) (w : World) (r : Rep) (ls : List Let) (er : Int) (e : Ending) (w' : World) : Prop :=
  ∃ lv vv mv tv, e = .returned (.agg #[.int .i64 r.id, .int .i64 r.count, .int .i64 r.epoch, .int .i64 r.voted, .int .i64 r.role, lv, .int .i64 r.conf, vv, mv, tv, .int .i64 er]) ∧
    RdItems w' (fun k => k < w.heap.size ∧ M k) lv r.log ∧ RdBools w' (fun k => k < w.heap.size ∧ M k) vv r.votes ∧ RdInts w' (fun k => k < w.heap.size ∧ M k) mv r.mat ∧ RdLets w' (fun k => k < w.heap.size ∧ M k) tv ls ∧ Kept NoM w w'

/-- readings of the arguments, at the end -/
theorem rd_args {M : Nat → Prop} {w w' : World} {r : Rep} {lv vv mv : Value} (hlv : RdItems w M lv r.log) (hvv : RdBools w M vv r.votes) (hmv : RdInts w M mv r.mat) (K : Kept NoM w w') :
    RdItems w' (fun k => k < w.heap.size ∧ M k) lv r.log ∧ RdBools w' (fun k => k < w.heap.size ∧ M k) vv r.votes ∧ RdInts w' (fun k => k < w.heap.size ∧ M k) mv r.mat :=
  ⟨hlv.step K.of_no (fun _ _ x => x.2), hvv.step K.of_no (fun _ _ x => x.2), hmv.step K.of_no (fun _ _ x => x.2)⟩
theorem RdItems.any {M : Nat → Prop} {w : World} {v : Value} {xs : List Item} (h : RdItems w M v xs) : RdItems w NoM v xs := h.mono (fun _ _ x => x.elim)
theorem RdBools.any {M : Nat → Prop} {w : World} {v : Value} {xs : List Bool} (h : RdBools w M v xs) : RdBools w NoM v xs := h.mono (fun _ _ x => x.elim)
theorem RdInts.any {M : Nat → Prop} {w : World} {v : Value} {xs : List Int} (h : RdInts w M v xs) : RdInts w NoM v xs := h.mono (fun _ _ x => x.elim)
theorem RdLets.any {M : Nat → Prop} {w : World} {v : Value} {xs : List Let} (h : RdLets w M v xs) : RdLets w NoM v xs := h.mono (fun _ _ x => x.elim)

theorem rfollow_ok (r : Rep) (la va ma : Option Addr) (ln lc vn vc mn mc : Nat) (w : World) :
    Calls Tryd.prog 53 #[.agg #[.int .i64 r.id, .int .i64 r.count, .int .i64 r.epoch, .int .i64 r.voted, .int .i64 r.role, .slice la ln lc, .int .i64 r.conf, .slice va vn vc, .slice ma mn mc]] w fun e w' =>
      e = .returned (.agg #[.int .i64 r.id, .int .i64 r.count, .int .i64 r.epoch, .int .i64 r.voted, .int .i64 1, .slice la ln lc, .int .i64 r.conf, .slice none 0 0, .slice none 0 0]) ∧ Kept NoM w w' := by
  have K : ∀ a b, Kept NoM w ((w.alloc a).alloc b) := fun a b => (((Kept.refl NoM w).alloc a).alloc b)
  go_enter Tryd.func53, Tryd.ntmps53
  go_wp2
  refine bodyPost_ret (v := .agg #[.int .i64 r.id, .int .i64 r.count, .int .i64 r.epoch, .int .i64 r.voted, .int .i64 1, .slice la ln lc, .int .i64 r.conf, .slice none 0 0, .slice none 0 0]) (by simp [results, Tryd.results53, go_sem]) rfl ?_
  exact ⟨rfl, K _ _⟩

theorem ranswer_ok (r : Rep) (m : Let) (kind pos : Int) (yes : Bool) (lv vv mv iv : Value) (M : Nat → Prop) (w : World) (hlv : RdItems w M lv r.log) (hvv : RdBools w M vv r.votes) (hmv : RdInts w M mv r.mat) (hiv : RdItems w NoM iv m.items) :
    Calls Tryd.prog 67 #[.agg #[.int .i64 r.id, .int .i64 r.count, .int .i64 r.epoch, .int .i64 r.voted, .int .i64 r.role, lv, .int .i64 r.conf, vv, mv], .agg #[.int .i64 m.kind, .int .i64 m.src, .int .i64 m.dst, .int .i64 m.ep, .int .i64 m.pos, .int .i64 m.aep, iv, .int .i64 m.conf, .bool m.yes], .int .i64 kind, .bool yes, .int .i64 pos] w
      (RSent M w r [{ kind := kind, src := r.id, dst := m.src, ep := r.epoch, pos := pos, aep := 0, items := [], conf := 0, yes := yes }] 0) := by
  obtain ⟨la, lcap, rfl, _, _⟩ := hlv.shape
  obtain ⟨va, vcap, rfl, _, _⟩ := hvv.shape
  obtain ⟨ma, mcap, rfl, _, _⟩ := hmv.shape
  obtain ⟨ia, icap, rfl, _, _⟩ := hiv.shape
  go_enter Tryd.func67, Tryd.ntmps67
  go_wp2
  refine bodyPost_ret (v := .agg #[.int .i64 r.id, .int .i64 r.count, .int .i64 r.epoch, .int .i64 r.voted, .int .i64 r.role, .slice la r.log.length lcap, .int .i64 r.conf, .slice va r.votes.length vcap, .slice ma r.mat.length mcap, .slice (some ⟨w.heap.size + 3, 0, none⟩) 1 1, .int .i64 0]) (by simp [results, Tryd.results67, go_sem]) rfl ?_
  have K := fun a b c d => ((((Kept.refl NoM w).alloc a).alloc b).alloc c).alloc d
  have hq := rd_args hlv hvv hmv (K (.cells #[.int .i64 r.id, .int .i64 r.count, .int .i64 r.epoch, .int .i64 r.voted, .int .i64 r.role, .slice la r.log.length lcap, .int .i64 r.conf, .slice va r.votes.length vcap, .slice ma r.mat.length mcap] 32 (0, 0)) (.cells #[.int .i64 m.kind, .int .i64 m.src, .int .i64 m.dst, .int .i64 m.ep, .int .i64 m.pos, .int .i64 m.aep, .slice ia m.items.length icap, .int .i64 m.conf, .bool m.yes] 57 (0, 0)) (.cells #[.int .i64 r.id, .int .i64 r.count, .int .i64 r.epoch, .int .i64 r.voted, .int .i64 r.role, .slice la r.log.length lcap, .int .i64 r.conf, .slice va r.votes.length vcap, .slice ma r.mat.length mcap, .slice (some ⟨w.heap.size + 3, 0, none⟩) 1 1, .int .i64 0] 62 (0, 0)) (.cells #[.int .i64 kind, .int .i64 r.id, .int .i64 m.src, .int .i64 r.epoch, .int .i64 pos, .int .i64 0, .slice none 0 0, .int .i64 0, .bool yes] 57 (0, 0)))
  exact ⟨_, _, _, _, rfl, hq.1, hq.2.1, hq.2.2, rd_one (blk_new' _ _ _ (by simp)) (fun x => by have := x.1; omega) ⟨_, rfl, RdItems.nil _ _⟩ rfl, K _ _ _ _⟩
end Go.Proofs.YtgohploghbimlaaDoor

/- Walks of the specification: equal items, replicas, letters. -/
namespace Go.Proofs.YtgohploghbimlaaDoor
open Go.RowKit
set_option maxHeartbeats 1000000
set_option maxRecDepth 4000

theorem sameItems_ok (v1 v2 : Value) (xs : List Item) (w : World) (h1 : RdItems w NoM v1 xs) (h2 : RdItems w NoM v2 xs) (hn : xs.length ≤ 1000000000) :
    Calls Tryd.prog 20 #[v1, v2] w fun e w' => e = .returned (.bool true) ∧ ∃ n, w' = w.drewN n := by
  obtain ⟨a1, c1, rfl, _, _⟩ := h1.shape
  obtain ⟨a2, c2, rfl, _, _⟩ := h2.shape
  go_enter Tryd.func20, Tryd.ntmps20
  go_wp2
  go_loopw [5] (fun i wr => ∃ k : Nat, k ≤ xs.length ∧ i = .int .i64 k ∧ ∃ n, wr = w.drewN n) (fun i _ => xs.length - (intOf i).toNat)
  case atStart => exact ⟨0, Nat.zero_le _, rfl, 0, rfl⟩
  case round =>
    obtain ⟨k, hk, rfl, n, rfl⟩ := hrel
    by_cases hlt : k < xs.length
    · obtain ⟨x, hx⟩ := get_at hlt
      obtain ⟨b, off, e1, _, hb1, x0, x1⟩ := h1.at hx
      obtain ⟨b2, off2, e2, _, hb2, y0, y1⟩ := h2.at hx
      subst e1 e2
      have hki : (k : Int) < xs.length := by omega
      clear h1 h2 hx hlt
      go_wp2_with fail
      go_quiet (fail)
      go_wp2
      go_roundw
      case rel => exact ⟨k + 1, by omega, by go_num, _, rfl⟩
      case measure => simp [intOf]; omega
    · obtain rfl : k = xs.length := by omega
      go_wp2
      go_ret
      exact ⟨rfl, n, rfl⟩

theorem sameBools_at {w : World} {v : Value} {xs : List Bool} (h : RdBools w NoM v xs) : True := trivial

theorem rsame_ok (r : Rep) (lv vv mv lv2 vv2 mv2 : Value) (w : World) (hlv : RdItems w NoM lv r.log) (hvv : RdBools w NoM vv r.votes) (hmv : RdInts w NoM mv r.mat)
    (hlv2 : RdItems w NoM lv2 r.log) (hvv2 : RdBools w NoM vv2 r.votes) (hmv2 : RdInts w NoM mv2 r.mat) (hll : r.log.length ≤ 1000000) (hvl : r.votes.length ≤ 1000000) (hml : r.mat.length ≤ 1000000) :
    Calls Tryd.prog 10 #[.agg #[.int .i64 r.id, .int .i64 r.count, .int .i64 r.epoch, .int .i64 r.voted, .int .i64 r.role, lv, .int .i64 r.conf, vv, mv], .agg #[.int .i64 r.id, .int .i64 r.count, .int .i64 r.epoch, .int .i64 r.voted, .int .i64 r.role, lv2, .int .i64 r.conf, vv2, mv2]] w fun e w' =>
      e = .returned (.bool true) ∧ Kept NoM w w' := by
  obtain ⟨la, lcap, rfl, hlc, hlm⟩ := hlv.shape
  obtain ⟨va, vcap, rfl, _, _⟩ := hvv.shape
  obtain ⟨ma, mcap, rfl, _, _⟩ := hmv.shape
  obtain ⟨la2, lcap2, rfl, hlc2, hlm2⟩ := hlv2.shape
  obtain ⟨va2, vcap2, rfl, _, _⟩ := hvv2.shape
  obtain ⟨ma2, mcap2, rfl, _, _⟩ := hmv2.shape
  have K2 : ∀ a b, Kept NoM w ((w.alloc a).alloc b) := fun a b => ((Kept.refl NoM w).alloc a).alloc b
  go_enter Tryd.func10, Tryd.ntmps10
  go_wp2_with fail
  refine (sameItems_ok _ _ r.log _ (hlv.kept (K2 _ _)) (hlv2.kept (K2 _ _)) (by omega)).mono ?_
  rintro e w1 ⟨rfl, n, rfl⟩
  go_wp2_with fail
  go_loopw [6] (fun i wr => ∃ k : Nat, k ≤ r.votes.length ∧ i = .int .i64 k ∧ ∃ n, wr = (((w.alloc (.cells #[.int .i64 r.id, .int .i64 r.count, .int .i64 r.epoch, .int .i64 r.voted, .int .i64 r.role, .slice la r.log.length lcap, .int .i64 r.conf, .slice va r.votes.length vcap, .slice ma r.mat.length mcap] 32 (0, 0))).alloc (.cells #[.int .i64 r.id, .int .i64 r.count, .int .i64 r.epoch, .int .i64 r.voted, .int .i64 r.role, .slice la2 r.log.length lcap2, .int .i64 r.conf, .slice va2 r.votes.length vcap2, .slice ma2 r.mat.length mcap2] 32 (0, 0)))).drewN n) (fun i _ => r.votes.length - (intOf i).toNat)
  case atStart => exact ⟨0, Nat.zero_le _, rfl, _, rfl⟩
  case round =>
    obtain ⟨k, hk, rfl, n, rfl⟩ := hrel
    by_cases hlt : k < r.votes.length
    · obtain ⟨x, hx⟩ := get_at hlt
      obtain ⟨b, off, e1, _, hb1, x0⟩ := hvv.at hx
      obtain ⟨b2, off2, e2, _, hb2, y0⟩ := hvv2.at hx
      subst e1 e2
      have hki : (k : Int) < r.votes.length := by omega
      have x00 := fun a b => (K2 a b).cell x0 (fun h => h)
      have y00 := fun a b => (K2 a b).cell y0 (fun h => h)
      clear hx hlt hlv hvv hmv hlv2 hvv2 hmv2
      go_wp2_with fail
      go_quiet (fail)
      go_wp2
      go_roundw
      case rel => exact ⟨k + 1, by omega, by go_num, _, rfl⟩
      case measure => simp [intOf]; omega
    · obtain rfl : k = r.votes.length := by omega
      have hki : decide ((r.votes.length : Int) < r.votes.length) = false := decide_eq_false (by omega)
      go_wp2_with fail
      go_loopw [7] (fun i wr => ∃ k : Nat, k ≤ r.mat.length ∧ i = .int .i64 k ∧ ∃ n, wr = (((w.alloc (.cells #[.int .i64 r.id, .int .i64 r.count, .int .i64 r.epoch, .int .i64 r.voted, .int .i64 r.role, .slice la r.log.length lcap, .int .i64 r.conf, .slice va r.votes.length vcap, .slice ma r.mat.length mcap] 32 (0, 0))).alloc (.cells #[.int .i64 r.id, .int .i64 r.count, .int .i64 r.epoch, .int .i64 r.voted, .int .i64 r.role, .slice la2 r.log.length lcap2, .int .i64 r.conf, .slice va2 r.votes.length vcap2, .slice ma2 r.mat.length mcap2] 32 (0, 0)))).drewN n) (fun i _ => r.mat.length - (intOf i).toNat)
      case atStart => exact ⟨0, Nat.zero_le _, rfl, _, rfl⟩
      case round =>
        obtain ⟨k, hk, rfl, n, rfl⟩ := hrel
        by_cases hlt : k < r.mat.length
        · obtain ⟨x, hx⟩ := get_at hlt
          obtain ⟨b, off, e1, _, hb1, x0⟩ := hmv.at hx
          obtain ⟨b2, off2, e2, _, hb2, y0⟩ := hmv2.at hx
          subst e1 e2
          have hki : (k : Int) < r.mat.length := by omega
          have x00 := fun a b => (K2 a b).cell x0 (fun h => h)
          have y00 := fun a b => (K2 a b).cell y0 (fun h => h)
          clear hx hlt hlv hvv hmv hlv2 hvv2 hmv2
          go_wp2_with fail
          go_quiet (fail)
          go_wp2
          go_roundw
          case rel => exact ⟨k + 1, by omega, by go_num, _, rfl⟩
          case measure => simp [intOf]; omega
        · obtain rfl : k = r.mat.length := by omega
          have hki : decide ((r.mat.length : Int) < r.mat.length) = false := decide_eq_false (by omega)
          go_wp2
          go_ret
          exact ⟨rfl, (K2 _ _).drewN _⟩
end Go.Proofs.YtgohploghbimlaaDoor
