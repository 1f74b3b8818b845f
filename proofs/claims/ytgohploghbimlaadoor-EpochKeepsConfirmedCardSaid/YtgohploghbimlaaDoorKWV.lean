/- Walk: Handle: what a letter's kind does; a letter that is not looked at. -/
import Derived.Test.YtgohploghbimlaaDoorKWU
import Derived.Test.YtgohploghbimlaaDoorKWN
import Derived.Test.YtgohploghbimlaaDoorKWQ
import Derived.Test.YtgohploghbimlaaDoorKWP
set_option linter.unusedVariables false
set_option linter.unusedSimpArgs false
set_option linter.unusedSectionVars false
namespace Go.Proofs.YtgohploghbimlaaDoor
open Go.RowKit
set_option maxHeartbeats 1000000
set_option maxRecDepth 4000

/-- what a letter's kind does -/
def dealF (r : Rep) (m : Let) : Rep × List Let := if m.kind = 1 then askF r m else if m.kind = 2 then voteF r m else if m.kind = 3 then appendF r m else replyF r m
/-- the replica that meets a letter of a newer epoch -/
def newerF (r : Rep) (m : Let) : Rep := if m.ep > r.epoch then { followF r with epoch := m.ep, voted := -1 } else r
theorem handleF_deal {r : Rep} {m : Let} (h : fineF r m = true) : handleF r m = dealF (newerF r m) m := by
  unfold handleF
  rw [if_neg (by simp [h])]
  rfl
theorem Valid.newerF {r : Rep} {m : Let} (h0 : Valid r) (f8 : m.ep ≤ 1073741824) : Valid (newerF r m) ∧ (Proofs.YtgohploghbimlaaDoor.newerF r m).count = r.count ∧ (Proofs.YtgohploghbimlaaDoor.newerF r m).id = r.id ∧ m.ep ≤ (Proofs.YtgohploghbimlaaDoor.newerF r m).epoch := by
  unfold Proofs.YtgohploghbimlaaDoor.newerF
  split
  · next hgt =>
    have hv := h0.follow
    have := h0.count1
    have := h0.ep0
    exact ⟨⟨hv.count1, hv.count7, hv.id0, hv.id1, by dsimp only; omega, f8, by dsimp only; omega, by dsimp only [followF]; omega, hv.ro0, hv.ro1, hv.len, hv.cf0, hv.cf1, properF_hi hv.prop (by dsimp only [followF]; omega), hv.votes, hv.mat, hv.match_, .inl rfl⟩, rfl, rfl, Int.le_refl _⟩
  · exact ⟨h0, rfl, rfl, by omega⟩

/-- a new deed, whatever lies before it -/
theorem deed_at [A : Inhabited (Nat → Prop)] {w W : World} {D : Nat} {r : Rep} {lv vv mv : Value} (hlv : RdItems w Away lv r.log) (hvv : RdBools w Away vv r.votes) (hmv : RdInts w Away mv r.mat) (K : Kept NoM w W) (hD : w.heap.size < D)
    (hb : W.heap[D]? = some (.cells #[.int .i64 r.id, .int .i64 r.count, .int .i64 r.epoch, .int .i64 r.voted, .int .i64 r.role, lv, .int .i64 r.conf, vv, mv, .slice none 0 0] 77 (0, 0))) : Deed W D none r [] := by
  have hs : ∀ i, i < w.heap.size → ND D none i → Away i := by
    rintro i hi (h | h | h)
    · omega
    · cases h
    · rcases h.2 with h | h
      · omega
      · exact h
  exact ⟨lv, vv, mv, _, hb, hlv.step K.of_no hs, hvv.step K.of_no hs, hmv.step K.of_no hs, OwnS.nil _ _ _ _, by simp⟩
theorem hands_of [A : Inhabited (Nat → Prop)] {w W3 W5 : World} {D : Nat} {O3 : Option Nat} {r : Rep} {ls : List Let} {lv vv mv tv : Value} {e : Ending}
    (q1 : RdItems W3 (ND D O3) lv r.log) (q2 : RdBools W3 (ND D O3) vv r.votes) (q3 : RdInts W3 (ND D O3) mv r.mat) (q4 : OwnS W3 O3 57 9 (ELet W3 (ND D O3)) tv ls) (hO : ∀ g, O3 = some g → D < g) (hwD : w.heap.size < D)
    (K : Kept (fun k => k = D ∨ k + 1 = D) W3 W5) (KN : Kept NoM w W5)
    (he : e = .returned (.tuple #[.agg #[.int .i64 r.id, .int .i64 r.count, .int .i64 r.epoch, .int .i64 r.voted, .int .i64 r.role, lv, .int .i64 r.conf, vv, mv], tv])) : Hands w r ls e W5 := by
  have K2 : Kept (ND D O3) W3 W5 := K.mono (fun i _ h => h.elim .inl (fun h => .inr (.inr ⟨by omega, .inl h⟩)))
  have hN : ∀ i, (i < w.heap.size ∧ Away i) → ND D O3 i := fun i x => .inr (.inr ⟨by omega, .inr x.2⟩)
  refine ⟨lv, vv, mv, tv, he, (q1.kept K2).mono (fun i _ x => hN i x), (q2.kept K2).mono (fun i _ x => hN i x), (q3.kept K2).mono (fun i _ x => hN i x), ?_, KN⟩
  have h1 : RdS W3 (fun k => k ≤ D) 9 (ELet W3 (ND D O3)) tv ls := q4.rd (fun g hg h => by have := hO g hg; have h : g ≤ D := h; omega)
  exact RdS.mono (RdS.kept h1 (K.mono (fun i _ h => by
    show i ≤ D
    rcases h with h | h <;> omega)) (fun _ _ x => x)) (fun i _ x => by have := x.1; show i ≤ D; omega) (by omega) (fun _ _ x => (x.kept K2).mono (fun i _ y => hN i y))

section
variable [A : Inhabited (Nat → Prop)]
/-- the contract of a method that handles a letter -/
def Method (K D : Nat) (O : Option Nat) (r : Rep) (m : Let) (iv : Value) (ls : List Let) (w : World) (p : Rep × List Let) : Prop :=
  Calls Tryd.prog K #[.pointer (some ⟨D, 0, none⟩), .agg #[.int .i64 m.kind, .int .i64 m.src, .int .i64 m.dst, .int .i64 m.ep, .int .i64 m.pos, .int .i64 m.aep, iv, .int .i64 m.conf, .bool m.yes]] w fun e w' => e = .returned (.tuple #[]) ∧ DStep D O w p.1 (ls ++ p.2) w'

theorem deal_ok (D : Nat) (O : Option Nat) (r0 r : Rep) (m : Let) (iv : Value) (ls : List Let) (w : World) (hd : Deed w D O r ls) (hiv : RdItems w (ND D O) iv m.items) (hr : Valid r) (hf : fineF r0 m = true) (hc : r.count = r0.count) (he : m.ep ≤ r.epoch) (hl : ls.length ≤ 90000) (kd : Nat) (hk : m.kind = kd) :
    Method (47 + kd) D O r m iv ls w (dealF r m) := by
  obtain ⟨f1, f2, f3, f4, f5, f6, f7, f8, f9, f10⟩ := fineF_out hf
  have hll := hr.len
  have c1 := hr.count1
  have c7 := hr.count7
  unfold Method dealF
  split
  · next h1 =>
    obtain rfl : kd = 1 := by omega
    exact ask_ok D O r m iv ls w hd hiv (by omega) hl
  split
  · next h2 =>
    obtain rfl : kd = 2 := by omega
    by_cases hno : r.role ≠ 2 ∨ m.ep ≠ r.epoch ∨ m.yes = false
    · exact vote_no D O r m iv ls w hd hiv hno
    · have hv := hr.votes
      have g1 : r.role = 2 := by omega
      have g2 : m.ep = r.epoch := by omega
      have g3 : m.yes = true := by
        cases hy : m.yes with
        | true => rfl
        | false => exact absurd (.inr (.inr hy)) hno
      rw [if_pos g1] at hv
      exact vote_yes D O r m iv ls w hd hiv g1 g2 g3 f4 (by omega) (by omega) c1 (by omega) hr.id0 hr.id1 (by omega) hl
  split
  · next h3 =>
    obtain rfl : kd = 3 := by omega
    obtain ⟨g1, g2, g3, g4, g5, g6⟩ := f10 h3
    have g7 := f9 (by omega)
    by_cases hlt : m.ep < r.epoch
    · exact append_old D O r m iv ls w hd hiv hlt hl
    by_cases hr3 : r.role = 3
    · exact append_lead D O r m iv ls w hd hiv hlt hr3
    by_cases hle : (r.log.length : Int) < m.pos
    · exact append_less D O r m iv ls w hd hiv hlt hr3 hle hl
    obtain ⟨p, hp⟩ := Int.eq_ofNat_of_zero_le g7.1
    by_cases hne : lastF (r.log.take p) = m.aep
    · refine append_walk D O r m iv ls w hd hiv hlt hr3 p hp (by omega) hne (by omega) (by omega) hl ?_
      unfold appendF
      rw [if_neg hlt, if_neg hr3]
      simp only
      rw [if_neg (fun h => h.elim hle (fun h => h (by rw [hp]; exact hne)))]
      simp only [hp]
      rfl
    · exact append_diff D O r m iv ls w hd hiv hlt hr3 p hp (by omega) hne (by omega) hl
  · obtain rfl : kd = 4 := by omega
    have g7 := f9 (by omega)
    by_cases hno : r.role ≠ 3 ∨ m.ep ≠ r.epoch ∨ m.yes = false
    · exact reply_no D O r m iv ls w hd hiv hno
    · have hm := hr.mat
      have g1 : r.role = 3 := by omega
      have g2 : m.ep = r.epoch := by omega
      have g3 : m.yes = true := by
        cases hy : m.yes with
        | true => rfl
        | false => exact absurd (.inr (.inr hy)) hno
      rw [if_pos g1] at hm
      exact reply_yes D O r m iv ls w hd hiv g1 g2 g3 f4 (by omega) g7.1 hm hr.match_ c1 (by omega) (by omega) hl

theorem handle_not (r : Rep) (lv vv mv : Value) (m : Let) (iv : Value) (w : World) (hlv : RdItems w Away lv r.log) (hvv : RdBools w Away vv r.votes) (hmv : RdInts w Away mv r.mat) (hiv : RdItems w Away iv m.items) (hil : m.items.length ≤ 1000000) (hf : fineF r m = false) :
    Calls Tryd.prog 24 #[.agg #[.int .i64 r.id, .int .i64 r.count, .int .i64 r.epoch, .int .i64 r.voted, .int .i64 r.role, lv, .int .i64 r.conf, vv, mv], .agg #[.int .i64 m.kind, .int .i64 m.src, .int .i64 m.dst, .int .i64 m.ep, .int .i64 m.pos, .int .i64 m.aep, iv, .int .i64 m.conf, .bool m.yes]] w (Hands w (handleF r m).1 (handleF r m).2) := by
  have HF := Lib.hid (show handleF r m = (r, []) by unfold handleF; rw [if_pos hf])
  obtain ⟨la, lcap, rfl, _, _⟩ := hlv.shape
  obtain ⟨va, vcap, rfl, _, _⟩ := hvv.shape
  obtain ⟨ma, mcap, rfl, _, _⟩ := hmv.shape
  obtain ⟨ia, icap, rfl, _, _⟩ := hiv.shape
  have K4 : ∀ a b c d, Kept NoM w ((((w.alloc a).alloc b).alloc c).alloc d) := fun a b c d => ((((Kept.refl NoM w).alloc a).alloc b).alloc c).alloc d
  go_enter Tryd.func24, Tryd.ntmps24
  go_wp2_with fail
  refine (fine_ok (w.heap.size + 3) r m _ _ NoM (cell_blk (blk_new' _ _ _ (by simp)) 0 _ rfl) (cell_blk (blk_new' _ _ _ (by simp)) 1 _ rfl) (hiv.step (K4 _ _ _ _).of_no (fun _ _ x => x.elim)) hil).mono ?_
  rintro e w1 ⟨rfl, k1⟩
  rw [hf]
  have b0 := k1.blk (k := w.heap.size) (blk_old (blk_old (blk_old (blk_new' w _ w.heap.size rfl) _) _) _) (fun x => x)
  have b2 := k1.blk (k := w.heap.size + 2) (blk_old (blk_new' _ _ _ (by simp)) _) (fun x => x)
  have KW := (K4 _ _ _ _).trans k1
  obtain ⟨w2, e2, z0, z2, KW2⟩ : ∃ w2, w1 = putB (putB w2 w.heap.size _ 32) (w.heap.size + 2) _ 32 ∧ w.heap.size < w2.heap.size ∧ w.heap.size + 2 < w2.heap.size ∧ Kept NoM w w2 := ⟨w1, expose2 b0 b2, lt_of_block b0, lt_of_block b2, KW⟩
  subst e2
  clear k1 KW b0 b2
  go_wp2
  refine bodyPost_ret (v := .tuple #[.agg #[.int .i64 r.id, .int .i64 r.count, .int .i64 r.epoch, .int .i64 r.voted, .int .i64 r.role, .slice la r.log.length lcap, .int .i64 r.conf, .slice va r.votes.length vcap, .slice ma r.mat.length mcap], .slice none 0 0]) (by simp [results, Tryd.results24, go_sem, z0, z2]) rfl ?_
  rw [HF.out]
  have K9 : ∀ c d, Kept NoM w (putB (putB w2 w.heap.size c 32) (w.heap.size + 2) d 32) := fun c d => (KW2.putN (Nat.le_refl _) c 32).putN (by omega) d 32
  exact ⟨_, _, _, _, rfl, hlv.step (K9 _ _).of_no (fun _ _ x => x.2), hvv.step (K9 _ _).of_no (fun _ _ x => x.2), hmv.step (K9 _ _).of_no (fun _ _ x => x.2), RdLets.nil _ _, K9 _ _⟩
end
end Go.Proofs.YtgohploghbimlaaDoor
