/- Texts that belong together: TG, TN, TH. -/
import Derived.Test.YtgohploghbimlaaDoorKTE
import Derived.Test.YtgohploghbimlaaDoorKTF
import Derived.Test.YtgohploghbimlaaDoorKRO
import Derived.Test.YtgohploghbimlaaDoorKShelf
import Derived.Test.YtgohploghbimlaaDoorKPB
import Derived.Test.YtgohploghbimlaaDoorKWR
set_option linter.unusedVariables false
set_option linter.unusedSimpArgs false
set_option linter.unusedSectionVars false
/- The law's sanity: what holds of its world at each event. -/
namespace Go.Proofs.YtgohploghbimlaaDoor
open Go.RowKit
set_option linter.unusedSectionVars false
variable [BB : Beside]
set_option maxHeartbeats 1000000
set_option maxRecDepth 4000

/-- a world of replicas and letters that was made since w0 -/
def San (n : Nat) (w0 w : World) (W : Nat) (s : WS) : Prop := ∃ OR OL, WState w W OR OL s ∧ WOk n s ∧ (∀ k, MX W OR OL k → w0.heap.size ≤ k) ∧ Kept NoM w0 w
theorem San.kept {n : Nat} {w0 w w' : World} {W : Nat} {s : WS} (h : San n w0 w W s) (k : Kept NoM w w') : San n w0 w' W s := by
  obtain ⟨OR, OL, h1, h2, h3, h4⟩ := h
  exact ⟨OR, OL, h1.kept k, h2, h3, h4.trans k⟩
theorem San.base {n : Nat} {w0 w : World} {W : Nat} {s : WS} (h : San n w0 w W s) : Kept NoM w0 w := let ⟨_, _, _, _, _, h4⟩ := h; h4
theorem san_play (it : Int → ByteArray) {n : Nat} {w0 w : World} {W : Nat} {s s' : WS} {kind a b : Int} (h : San n w0 w W s) (hn : n ≤ 7) (hl : s.lets.length ≤ 100000) (he : playF it s kind a b = s')
    (hI : kind = 3 → ∀ W1, Kept NoM w0 W1 → Calls Tryd.prog 16 #[.int .i64 b] W1 fun e w' => e = .returned (.string (it b)) ∧ Kept NoM W1 w') :
    Calls Tryd.prog 11 #[.pointer (some ⟨W, 0, none⟩), .agg #[.int .i64 kind, .int .i64 a, .int .i64 b]] w fun e w' => e = .returned (.bool true) ∧ San n w0 w' W s' := by
  obtain ⟨OR, OL, h1, h2, h3, h4⟩ := h
  refine (play_ok it n s kind a b W OR OL w (fun hk W1 k => hI hk W1 (h4.trans k)) h1 h2 hn hl).mono ?_
  rintro e w' ⟨rfl, OR', OL', g1, g2, g3, g4⟩
  have h5 := h2.played it kind a b
  rw [he] at g1 h5
  refine ⟨rfl, OR', OL', g1, h5, ?_, h4.trans' g2 (fun i hi h => by have := h3 i h; omega)⟩
  have hz := h4.size
  rintro k (h | h | h)
  · exact h3 k (.inl h)
  · rcases g3 with rfl | ⟨g, rfl, hg⟩
    · exact h3 k (.inr (.inl h))
    · cases h; omega
  · rcases g4 with rfl | ⟨g, rfl, hg⟩
    · exact h3 k (.inr (.inr h))
    · cases h; omega
theorem San.reps {n : Nat} {w0 w : World} {W : Nat} {s : WS} (h : San n w0 w W s) (hn : 0 < s.reps.length) : ∃ g cap, W < w.heap.size ∧ g < w.heap.size ∧ w.cell? ⟨W, 0, none⟩ = some (.slice (some ⟨g, 0, none⟩) s.reps.length cap) ∧
    ∀ j r, s.reps[j]? = some r → ∃ la lc va vc ma mc, (∀ k u, (repC r (.slice la r.log.length lc) (.slice va r.votes.length vc) (.slice ma r.mat.length mc))[k]? = some u → w.cell? ⟨g, j * 9 + k, none⟩ = some u) ∧
      RdItems w NoM (.slice la r.log.length lc) r.log ∧ RdBools w NoM (.slice va r.votes.length vc) r.votes ∧ RdInts w NoM (.slice ma r.mat.length mc) r.mat := by
  obtain ⟨OR, OL, ⟨rv, lv, hW, hR, hL, n1, n2, n3, hBs⟩, h2, h3, h4⟩ := h
  obtain ⟨g, cap, cur, rfl, rfl, hg, hc, hm, hsz, hrow⟩ := hR.openN hn
  refine ⟨g, cap, lt_of_block hW, lt_of_block hg, cell_blk hW 0 _ rfl, fun j r hj => ?_⟩
  obtain ⟨cs, ⟨lv0, vv0, mv0, rfl, ra, rb, rc⟩, _, hcell⟩ := hrow j r hj
  obtain ⟨la0, lc0, rfl, _, _⟩ := ra.shape
  obtain ⟨va0, vc0, rfl, _, _⟩ := rb.shape
  obtain ⟨ma0, mc0, rfl, _, _⟩ := rc.shape
  exact ⟨la0, lc0, va0, vc0, ma0, mc0, fun k u hu => cell_blk hg _ _ (hcell k u (by simpa [repC] using hu)), ra.any, rb.any, rc.any⟩
theorem San.lets {n : Nat} {w0 w : World} {W : Nat} {s : WS} (h : San n w0 w W s) : ∃ la lc, W < w.heap.size ∧ w.cell? ⟨W, 1, none⟩ = some (.slice la s.lets.length lc) ∧
    ∀ q m, s.lets[q]? = some m → ∃ bb, la = some ⟨bb, 0, none⟩ ∧ bb < w.heap.size ∧ w.cell? ⟨bb, q * 9 + 2, none⟩ = some (.int .i64 m.dst) ∧ w.cell? ⟨bb, q * 9 + 8, none⟩ = some (.bool m.yes) := by
  obtain ⟨OR, OL, ⟨rv, lv, hW, hR, hL, n1, n2, n3, hBs⟩, h2, h3, h4⟩ := h
  by_cases h0 : 0 < s.lets.length
  · obtain ⟨g, cap, cur, rfl, rfl, hg, hc, hm, hsz, hrow⟩ := hL.openN h0
    refine ⟨_, cap, lt_of_block hW, cell_blk hW 1 _ rfl, fun q m hq => ⟨g, rfl, lt_of_block hg, ?_⟩⟩
    obtain ⟨cs, ⟨iv, rfl, ri⟩, _, hcell⟩ := hrow q m hq
    exact ⟨cell_blk hg _ _ (hcell 2 _ rfl), cell_blk hg _ _ (hcell 8 _ rfl)⟩
  · obtain ⟨la, lc, rfl, _, _, _, _⟩ := hL.shape
    refine ⟨la, lc, lt_of_block hW, cell_blk hW 1 _ rfl, fun q m hq => ?_⟩
    have := (List.getElem?_eq_some_iff.1 hq).1
    omega
theorem WOk.ex0 : WOk 3 ex0 := by
  refine ⟨⟨rfl, ?_, by simp [Proofs.YtgohploghbimlaaDoor.ex0]⟩, by simp [Proofs.YtgohploghbimlaaDoor.ex0]⟩
  intro k r hk
  match k with
  | 0 => cases hk; exact ⟨Valid.newF (by omega) (by omega) (by omega), rfl, rfl⟩
  | 1 => cases hk; exact ⟨Valid.newF (by omega) (by omega) (by omega), rfl, rfl⟩
  | 2 => cases hk; exact ⟨Valid.newF (by omega) (by omega) (by omega), rfl, rfl⟩
  | k + 3 => simp [Proofs.YtgohploghbimlaaDoor.ex0] at hk
/-- a law's world of new replicas, no letters -/
theorem san_new {n : Nat} {w0 w' : World} {W : Nat} {O : Option Nat} {rv : Value} {reps : List Rep} (hok : WOk n ⟨reps, []⟩) (hb : w'.heap[W]? = some (.cells #[rv, .slice none 0 0] 27 (0, 0))) (own : OwnS w' O 32 9 ENil rv reps)
    (hW : w0.heap.size ≤ W) (hO : ∀ g, O = some g → w0.heap.size ≤ g ∧ g ≠ W) (hBs : ∀ k, BB.blk k → k < w'.heap.size) (k : Kept NoM w0 w') : San n w0 w' W ⟨reps, []⟩ := by
  refine ⟨O, none, ⟨rv, _, hb, own.map (fun _ _ h => h.rep _ _), OwnS.nil _ _ _ _, ?_, by simp, by simp, hBs⟩, hok, ?_, k⟩
  · intro h; exact (hO W h).2 rfl
  · rintro i (h | h | h)
    · omega
    · exact (hO i h.symm).1
    · cases h
theorem digits7 : (⟨(Lib.decDigits 7).toArray⟩ : ByteArray) = T7 := by unfold Lib.decDigits; rfl
theorem itoa7 (W1 : World) : Calls Tryd.prog 16 #[.int .i64 7] W1 fun e w' => e = .returned (.string T7) ∧ Kept NoM W1 w' :=
  (Go.Proofs.Tryd.strconv_Itoa_small 7 (by decide) W1).mono (by rintro e w' ⟨rfl, rfl⟩; exact ⟨by rw [digits7], Kept.refl _ _⟩)
end Go.Proofs.YtgohploghbimlaaDoor

/- The law's world beside memory that the law itself writes. -/
namespace Go.Proofs.YtgohploghbimlaaDoor
open Go.RowKit
set_option maxHeartbeats 1000000

/-- a law's world that was made since w0; the blocks of F are not its own, and nothing that it reads lies in them -/
def SanB (F : Nat → Prop) (n : Nat) (w0 w : World) (W : Nat) (s : WS) : Prop :=
  ∃ OR OL, @WState ⟨F⟩ w W OR OL s ∧ WOk n s ∧ (∀ k, MX W OR OL k → w0.heap.size ≤ k ∧ ¬ F k) ∧ Kept NoM w0 w
section
variable {F F' : Nat → Prop} {n : Nat} {w0 w w' : World} {W : Nat} {s s' : WS}
theorem SanB.base (h : SanB F n w0 w W s) : Kept NoM w0 w := let ⟨_, _, _, _, _, h4⟩ := h; h4
theorem SanB.ok (h : SanB F n w0 w W s) : WOk n s := let ⟨_, _, _, h4, _⟩ := h; h4
theorem SanB.san (h : SanB F n w0 w W s) : @San ⟨F⟩ n w0 w W s := by
  obtain ⟨OR, OL, h1, h2, h3, h4⟩ := h
  exact ⟨OR, OL, h1, h2, fun k hk => (h3 k hk).1, h4⟩
theorem SanB.kept (h : SanB F n w0 w W s) (k : Kept NoM w w') : SanB F n w0 w' W s := by
  obtain ⟨OR, OL, h1, h2, h3, h4⟩ := h
  exact ⟨OR, OL, @WState.kept ⟨F⟩ _ _ _ _ _ _ h1 k, h2, h3, h4.trans k⟩
/-- the law has written its own memory -/
theorem SanB.write (h : SanB F n w0 w W s) (k : Kept F w w') (hF : ∀ k, F k → w0.heap.size ≤ k) (h1 : ∀ k, F' k → F k ∨ w.heap.size ≤ k) (h2 : ∀ k, F' k → k < w'.heap.size) : SanB F' n w0 w' W s := by
  obtain ⟨OR, OL, g1, g2, g3, g4⟩ := h
  have hz := g4.size
  have hlt := @WState.lt ⟨F⟩ _ _ _ _ _ g1
  obtain ⟨rv, lv, f1, f2, f3, f4, f5, f6, f7⟩ := g1
  have own : ∀ k, MX W OR OL k → ¬ F k := fun k hk => (g3 k hk).2
  have own' : ∀ k, MX W OR OL k → ¬ F' k := fun k hk hF' => by
    rcases h1 k hF' with h | h
    · exact own k hk h
    · have := hlt k (.inl hk)
      omega
  have hs : ∀ i, i < w.heap.size → @RX ⟨F'⟩ W OR OL i → @RX ⟨F⟩ W OR OL i := by
    intro i hi h
    rcases h with h | h
    · exact .inl h
    · rcases h1 i h with h | h
      · exact .inr h
      · omega
  have KR : Kept (@RX ⟨F⟩ W OR OL) w w' := k.mono fun _ _ h => .inr h
  refine ⟨OR, OL, ⟨rv, lv, k.blk f1 (own W (.inl rfl)), ?_, ?_, f4, f5, f6, h2⟩, g2, fun k hk => ⟨(g3 k hk).1, own' k hk⟩, g4.trans' k fun i hi h => by have := hF i h; omega⟩
  · exact f2.kept k (fun g hg => own g (.inr (.inl hg.symm))) (fun _ _ h => h.step KR hs)
  · exact f3.kept k (fun g hg => own g (.inr (.inr hg.symm))) (fun _ _ h => h.step KR hs)
theorem SanB.more (h : SanB F n w0 w W s) (k : Kept NoM w w') (hF : ∀ k, F k → w0.heap.size ≤ k) (h1 : ∀ k, F' k → F k ∨ w.heap.size ≤ k) (h2 : ∀ k, F' k → k < w'.heap.size) : SanB F' n w0 w' W s :=
  h.write k.of_no hF h1 h2
theorem San.beside (h : @San ⟨NoM⟩ n w0 w W s) : SanB NoM n w0 w W s := by
  obtain ⟨OR, OL, h1, h2, h3, h4⟩ := h
  exact ⟨OR, OL, h1, h2, fun k hk => ⟨h3 k hk, fun x => x⟩, h4⟩
theorem sanB_play (it : Int → ByteArray) {kind a b : Int} (h : SanB F n w0 w W s) (hn : n ≤ 7) (hl : s.lets.length ≤ 100000) (he : playF it s kind a b = s')
    (hI : kind = 3 → ∀ W1, Kept NoM w0 W1 → Calls Tryd.prog 16 #[.int .i64 b] W1 fun e w' => e = .returned (.string (it b)) ∧ Kept NoM W1 w') :
    Calls Tryd.prog 11 #[.pointer (some ⟨W, 0, none⟩), .agg #[.int .i64 kind, .int .i64 a, .int .i64 b]] w fun e w' => e = .returned (.bool true) ∧ SanB F n w0 w' W s' ∧ Kept (fun k => ¬ F k) w w' := by
  obtain ⟨OR, OL, h1, h2, h3, h4⟩ := h
  have hF := fun k hk => @WState.lt ⟨F⟩ _ _ _ _ _ h1 k (.inr hk)
  refine (@play_ok ⟨F⟩ it n s kind a b W OR OL w (fun hk W1 k => hI hk W1 (h4.trans k)) h1 h2 hn hl).mono ?_
  rintro e w' ⟨rfl, OR', OL', g1, g2, g3, g4⟩
  have h5 := h2.played it kind a b
  rw [he] at g1 h5
  have hz := h4.size
  have hnew : ∀ g, w.heap.size ≤ g → w0.heap.size ≤ g ∧ ¬ F g := fun g hg => ⟨by omega, fun hf => by have := hF g hf; omega⟩
  refine ⟨rfl, ⟨OR', OL', g1, h5, ?_, h4.trans' g2 (fun i hi h => by have := (h3 i h).1; omega)⟩, g2.mono (fun i _ h => (h3 i h).2)⟩
  rintro k (h | h | h)
  · exact h3 k (.inl h)
  · rcases g3 with rfl | ⟨g, rfl, hg⟩
    · exact h3 k (.inr (.inl h))
    · cases h; exact hnew _ hg
  · rcases g4 with rfl | ⟨g, rfl, hg⟩
    · exact h3 k (.inr (.inr h))
    · cases h; exact hnew _ hg
theorem SanB.rows (h : SanB F n w0 w W s) (hn : 0 < s.reps.length) : ∃ g cap, W < w.heap.size ∧ g < w.heap.size ∧ ¬ F W ∧ ¬ F g ∧ w.cell? ⟨W, 0, none⟩ = some (.slice (some ⟨g, 0, none⟩) s.reps.length cap) ∧
    ∀ j r, s.reps[j]? = some r → ∃ la lc va vc ma mc, (∀ k u, (repC r (.slice la r.log.length lc) (.slice va r.votes.length vc) (.slice ma r.mat.length mc))[k]? = some u → w.cell? ⟨g, j * 9 + k, none⟩ = some u) ∧
      RdItems w F (.slice la r.log.length lc) r.log ∧ RdBools w F (.slice va r.votes.length vc) r.votes ∧ RdInts w F (.slice ma r.mat.length mc) r.mat := by
  obtain ⟨OR, OL, ⟨rv, lv, hW, hR, hL, n1, n2, n3, hBs⟩, h2, h3, h4⟩ := h
  obtain ⟨g, cap, cur, rfl, rfl, hg, hc, hm, hsz, hrow⟩ := hR.openN hn
  refine ⟨g, cap, lt_of_block hW, lt_of_block hg, (h3 W (.inl rfl)).2, (h3 g (.inr (.inl rfl))).2, cell_blk hW 0 _ rfl, fun j r hj => ?_⟩
  obtain ⟨cs, ⟨lv0, vv0, mv0, rfl, ra, rb, rc⟩, _, hcell⟩ := hrow j r hj
  obtain ⟨la0, lc0, rfl, _, _⟩ := ra.shape
  obtain ⟨va0, vc0, rfl, _, _⟩ := rb.shape
  obtain ⟨ma0, mc0, rfl, _, _⟩ := rc.shape
  exact ⟨la0, lc0, va0, vc0, ma0, mc0, fun k u hu => cell_blk hg _ _ (hcell k u (by simpa [repC] using hu)), ra.mono (fun _ _ h => .inr h), rb.mono (fun _ _ h => .inr h), rc.mono (fun _ _ h => .inr h)⟩
end
end Go.Proofs.YtgohploghbimlaaDoor

/- Walk: the law's sanity. -/
namespace Go.Proofs.YtgohploghbimlaaDoor
open Go.RowKit
set_option maxHeartbeats 3000000
set_option maxRecDepth 4000

theorem sanity_ok (w : World) : Calls Tryd.prog 7 #[] w fun e w' => e = .returned (.bool true) ∧ Kept NoM w w' := by
  letI : Beside := ⟨NoM⟩
  go_enter Tryd.func7, Tryd.ntmps7
  go_wp2_with fail
  refine (three_ok _).mono ?_
  rintro e w1 ⟨a, cap, O, rfl, own, hn, k1⟩
  have S0 : San 3 w (w1.alloc (.cells #[.slice a 3 cap, .slice none 0 0] 27)) w1.heap.size ex0 :=
    san_new (O := O) WOk.ex0 (blk_new _ _) (own.kept ((Kept.refl NoM w1).alloc _) (fun _ _ x => x) (fun _ _ h => h)) k1.size (fun g hg => ⟨by rcases hn with rfl | ⟨g', rfl, h2⟩ <;> cases hg; omega, by have := own.lt g hg; omega⟩) (fun k h => h.elim) (k1.alloc _)
  have K1 := Lib.hid k1
  clear own hn k1
  have HS0 := Lib.hid S0
  obtain ⟨g0, cap0, zW0, zg0, r0, rows0⟩ := S0.reps (by decide)
  obtain ⟨la0, lc0, va0, vc0, ma0, mc0, f0, q1, q2, q3⟩ := rows0 0 _ rfl
  have c0 : (w1.alloc (.cells #[.slice a 3 cap, .slice none 0 0] 27)).cell? ⟨g0, 0, none⟩ = some (.int .i64 0) := f0 0 _ rfl
  have c1 : (w1.alloc (.cells #[.slice a 3 cap, .slice none 0 0] 27)).cell? ⟨g0, 1, none⟩ = some (.int .i64 3) := f0 1 _ rfl
  have c2 : (w1.alloc (.cells #[.slice a 3 cap, .slice none 0 0] 27)).cell? ⟨g0, 2, none⟩ = some (.int .i64 0) := f0 2 _ rfl
  have c3 : (w1.alloc (.cells #[.slice a 3 cap, .slice none 0 0] 27)).cell? ⟨g0, 3, none⟩ = some (.int .i64 (-1)) := f0 3 _ rfl
  have c4 : (w1.alloc (.cells #[.slice a 3 cap, .slice none 0 0] 27)).cell? ⟨g0, 4, none⟩ = some (.int .i64 1) := f0 4 _ rfl
  have c5 : (w1.alloc (.cells #[.slice a 3 cap, .slice none 0 0] 27)).cell? ⟨g0, 5, none⟩ = some (.slice la0 0 lc0) := f0 5 _ rfl
  have c6 : (w1.alloc (.cells #[.slice a 3 cap, .slice none 0 0] 27)).cell? ⟨g0, 6, none⟩ = some (.int .i64 0) := f0 6 _ rfl
  have c7 : (w1.alloc (.cells #[.slice a 3 cap, .slice none 0 0] 27)).cell? ⟨g0, 7, none⟩ = some (.slice va0 0 vc0) := f0 7 _ rfl
  have c8 : (w1.alloc (.cells #[.slice a 3 cap, .slice none 0 0] 27)).cell? ⟨g0, 8, none⟩ = some (.slice ma0 0 mc0) := f0 8 _ rfl
  have HV := Lib.hid (rvalid_ok (newR 0) _ _ _ _ q1 q2 q3 (Valid.newF (by omega) (by omega) (by omega)))
  have r0 : (w1.alloc (.cells #[.slice a 3 cap, .slice none 0 0] 27)).cell? ⟨w1.heap.size, 0, none⟩ = some (.slice (some ⟨g0, 0, none⟩) 3 cap0) := r0
  clear f0 q1 q2 q3 rows0 S0
  go_wp2_with fail
  refine HV.out.mono ?_
  rintro e y0 ⟨rfl, ky0⟩
  have HT0' := HS0.out.kept ky0
  clear ky0 c0 c1 c2 c3 c4 c5 c6 c7 c8 r0 zW0 zg0 HV HS0 K1
  generalize w1.heap.size = W at *
  have HT0 := Lib.hid HT0'
  clear HT0'
  go_wp2_with fail
  refine (san_play (fun _ => T7) HT0.out (by decide) (by decide) (ex_1 (fun _ => T7)) (fun h => by cases h)).mono ?_
  rintro e x1 ⟨rfl, S1⟩
  have HT1 := Lib.hid S1
  obtain ⟨g1, cap1, zW1, zg1, r1, rows1⟩ := S1.reps (by decide)
  have r1 : x1.cell? ⟨W, 0, none⟩ = some (.slice (some ⟨g1, 0, none⟩) 3 cap1) := r1
  obtain ⟨la1, lc1, va1, vc1, ma1, mc1, f1, _, _, _⟩ := rows1 0 _ rfl
  have c1_4 : x1.cell? ⟨g1, 4, none⟩ = some (.int .i64 2) := f1 4 _ rfl
  have c1_2 : x1.cell? ⟨g1, 2, none⟩ = some (.int .i64 1) := f1 2 _ rfl
  clear f1 rows1
  obtain ⟨ll1, lk1, zL1, l1, lrows1⟩ := S1.lets
  have l1 : x1.cell? ⟨W, 1, none⟩ = some (.slice ll1 2 lk1) := l1
  clear lrows1
  clear S1
  go_wp2_with fail
  refine (san_play (fun _ => T7) HT1.out (by decide) (by decide) (ex_2 (fun _ => T7)) (fun h => by cases h)).mono ?_
  rintro e x2 ⟨rfl, S2⟩
  have HT2 := Lib.hid S2
  clear  r1 zW1 zg1 c1_4 c1_2 l1 zL1
  clear S2
  go_wp2_with fail
  refine (san_play (fun _ => T7) HT2.out (by decide) (by decide) (ex_3 (fun _ => T7)) (fun h => by cases h)).mono ?_
  rintro e x3 ⟨rfl, S3⟩
  have HT3 := Lib.hid S3
  obtain ⟨g3, cap3, zW3, zg3, r3, rows3⟩ := S3.reps (by decide)
  have r3 : x3.cell? ⟨W, 0, none⟩ = some (.slice (some ⟨g3, 0, none⟩) 3 cap3) := r3
  obtain ⟨la3, lc3, va3, vc3, ma3, mc3, f3, _, _, _⟩ := rows3 0 _ rfl
  have c3_4 : x3.cell? ⟨g3, 4, none⟩ = some (.int .i64 3) := f3 4 _ rfl
  clear f3 rows3
  obtain ⟨ll3, lk3, zL3, l3, lrows3⟩ := S3.lets
  have l3 : x3.cell? ⟨W, 1, none⟩ = some (.slice ll3 5 lk3) := l3
  clear lrows3
  clear S3
  go_wp2_with fail
  refine (san_play (fun _ => T7) HT3.out (by decide) (by decide) (ex_4 (fun _ => T7) rfl) (fun _ W1 _ => itoa7 W1)).mono ?_
  rintro e x4 ⟨rfl, S4⟩
  have HT4 := Lib.hid S4
  clear  r3 zW3 zg3 c3_4 l3 zL3
  obtain ⟨ll4, lk4, zL4, l4, lrows4⟩ := S4.lets
  have l4 : x4.cell? ⟨W, 1, none⟩ = some (.slice ll4 7 lk4) := l4
  clear lrows4
  clear S4
  go_wp2_with fail
  refine (san_play (fun _ => T7) HT4.out (by decide) (by decide) (ex_5 (fun _ => T7)) (fun h => by cases h)).mono ?_
  rintro e x5 ⟨rfl, S5⟩
  have HT5 := Lib.hid S5
  clear  l4 zL4
  clear S5
  go_wp2_with fail
  refine (san_play (fun _ => T7) HT5.out (by decide) (by decide) (ex_6 (fun _ => T7)) (fun h => by cases h)).mono ?_
  rintro e x6 ⟨rfl, S6⟩
  have HT6 := Lib.hid S6
  obtain ⟨g6, cap6, zW6, zg6, r6, rows6⟩ := S6.reps (by decide)
  have r6 : x6.cell? ⟨W, 0, none⟩ = some (.slice (some ⟨g6, 0, none⟩) 3 cap6) := r6
  obtain ⟨la6, lc6, va6, vc6, ma6, mc6, f6, q1, q2, q3⟩ := rows6 0 _ rfl
  have c6_0 : x6.cell? ⟨g6, 0, none⟩ = some (.int .i64 0) := f6 0 _ rfl
  have c6_1 : x6.cell? ⟨g6, 1, none⟩ = some (.int .i64 3) := f6 1 _ rfl
  have c6_2 : x6.cell? ⟨g6, 2, none⟩ = some (.int .i64 1) := f6 2 _ rfl
  have c6_3 : x6.cell? ⟨g6, 3, none⟩ = some (.int .i64 0) := f6 3 _ rfl
  have c6_4 : x6.cell? ⟨g6, 4, none⟩ = some (.int .i64 3) := f6 4 _ rfl
  have c6_5 : x6.cell? ⟨g6, 5, none⟩ = some (.slice la6 1 lc6) := f6 5 _ rfl
  have c6_6 : x6.cell? ⟨g6, 6, none⟩ = some (.int .i64 1) := f6 6 _ rfl
  have c6_7 : x6.cell? ⟨g6, 7, none⟩ = some (.slice va6 0 vc6) := f6 7 _ rfl
  have c6_8 : x6.cell? ⟨g6, 8, none⟩ = some (.slice ma6 3 mc6) := f6 8 _ rfl
  have HC := Lib.hid (confirmed_ok ⟨0, 3, 1, 0, 3, [⟨1, T7⟩], 1, [], [1, 1, 0]⟩ _ _ _ _ q1 q2 q3 (by decide) (by decide) (by decide))
  clear f6 q1 q2 q3 rows6 S6
  go_wp2_with fail
  refine HC.out.mono ?_
  rintro e y6 ⟨v6, Oc, rfl, own6, _, ky6⟩
  obtain ⟨gc, kc, cc, rfl, _, hgc, _, _, _, htc⟩ := own6.open1 (f := Value.string) (fun c x h => h) (by decide)
  have zgc := lt_of_block hgc
  have hcc : y6.cell? ⟨gc, 0, none⟩ = some (.string ⟨#[55]⟩) := cell_blk hgc 0 _ (take_at (xs := confirmedF ⟨0, 3, 1, 0, 3, [⟨1, T7⟩], 1, [], [1, 1, 0]⟩) (f := Value.string) (i := 0) (x := T7) htc rfl)
  have HT6' := Lib.hid (HT6.out.kept ky6)
  clear HT6 own6 hgc htc ky6 r6 zW6 zg6 HC c6_0 c6_1 c6_2 c6_3 c6_4 c6_5 c6_6 c6_7 c6_8
  have HT6 := HT6'
  clear HT6'
  rw [show (confirmedF ⟨0, 3, 1, 0, 3, [⟨1, T7⟩], 1, [], [1, 1, 0]⟩).length = 1 from rfl]
  go_wp2_with fail
  refine (san_play (fun _ => T7) HT6.out (by decide) (by decide) (ex_7 (fun _ => T7)) (fun h => by cases h)).mono ?_
  rintro e x7 ⟨rfl, S7⟩
  have HT7 := Lib.hid S7
  clear  hcc zgc
  clear S7
  go_wp2_with fail
  refine (san_play (fun _ => T7) HT7.out (by decide) (by decide) (ex_8 (fun _ => T7)) (fun h => by cases h)).mono ?_
  rintro e x8 ⟨rfl, S8⟩
  have HT8 := Lib.hid S8
  obtain ⟨ll8, lk8, zL8, l8, lrows8⟩ := S8.lets
  have l8 : x8.cell? ⟨W, 1, none⟩ = some (.slice ll8 12 lk8) := l8
  obtain ⟨bb8, rfl, zb8, m2_8, m8_8⟩ := lrows8 11 _ rfl
  have m8 : x8.cell? ⟨bb8, 101, none⟩ = some (.int .i64 1) := m2_8
  clear m2_8 m8_8
  clear lrows8
  clear S8
  go_wp2_with fail
  refine (san_play (fun _ => T7) HT8.out (by decide) (by decide) (ex_9 (fun _ => T7)) (fun h => by cases h)).mono ?_
  rintro e x9 ⟨rfl, S9⟩
  have HT9 := Lib.hid S9
  clear  l8 zL8 m8 zb8
  obtain ⟨g9, cap9, zW9, zg9, r9, rows9⟩ := S9.reps (by decide)
  have r9 : x9.cell? ⟨W, 0, none⟩ = some (.slice (some ⟨g9, 0, none⟩) 3 cap9) := r9
  obtain ⟨la9, lc9, va9, vc9, ma9, mc9, f9, _, _, _⟩ := rows9 1 _ rfl
  have c9_11 : x9.cell? ⟨g9, 11, none⟩ = some (.int .i64 2) := f9 2 _ rfl
  clear f9 rows9
  obtain ⟨ll9, lk9, zL9, l9, lrows9⟩ := S9.lets
  have l9 : x9.cell? ⟨W, 1, none⟩ = some (.slice ll9 13 lk9) := l9
  obtain ⟨bb9, rfl, zb9, m2_9, m8_9⟩ := lrows9 12 _ rfl
  have m9 : x9.cell? ⟨bb9, 116, none⟩ = some (.bool false) := m8_9
  clear m2_9 m8_9
  clear lrows9
  clear S9
  go_wp2_with fail
  refine (san_play (fun _ => T7) HT9.out (by decide) (by decide) (ex_10 (fun _ => T7)) (fun h => by cases h)).mono ?_
  rintro e x10 ⟨rfl, S10⟩
  have HT10 := Lib.hid S10
  clear  r9 zW9 zg9 c9_11 l9 zL9 m9 zb9
  obtain ⟨g10, cap10, zW10, zg10, r10, rows10⟩ := S10.reps (by decide)
  have r10 : x10.cell? ⟨W, 0, none⟩ = some (.slice (some ⟨g10, 0, none⟩) 3 cap10) := r10
  obtain ⟨la10, lc10, va10, vc10, ma10, mc10, f10, _, _, _⟩ := rows10 0 _ rfl
  have c10_4 : x10.cell? ⟨g10, 4, none⟩ = some (.int .i64 1) := f10 4 _ rfl
  have c10_2 : x10.cell? ⟨g10, 2, none⟩ = some (.int .i64 2) := f10 2 _ rfl
  clear f10 rows10
  clear S10
  go_wp2_with fail
  refine (san_play (fun _ => T7) HT10.out (by decide) (by decide) (ex_11 (fun _ => T7)) (fun h => by cases h)).mono ?_
  rintro e x11 ⟨rfl, S11⟩
  have HT11 := Lib.hid S11
  clear  r10 zW10 zg10 c10_4 c10_2
  obtain ⟨ll11, lk11, zL11, l11, lrows11⟩ := S11.lets
  have l11 : x11.cell? ⟨W, 1, none⟩ = some (.slice ll11 16 lk11) := l11
  clear lrows11
  clear S11
  go_wp2_with fail
  refine (san_play (fun _ => T7) HT11.out (by decide) (by decide) (ex_12 (fun _ => T7)) (fun h => by cases h)).mono ?_
  rintro e x12 ⟨rfl, S12⟩
  have HT12 := Lib.hid S12
  clear  l11 zL11
  clear S12
  go_wp2_with fail
  refine (san_play (fun _ => T7) HT12.out (by decide) (by decide) (ex_13 (fun _ => T7)) (fun h => by cases h)).mono ?_
  rintro e x13 ⟨rfl, S13⟩
  have HT13 := Lib.hid S13
  clear S13
  go_wp2_with fail
  refine (newNot_ok 3 3 (by omega) (by omega) (by omega) _).mono ?_
  rintro e y13 ⟨rfl, k13⟩
  have T14 := HT13.out.kept k13
  clear HT13 k13
  have T15 := T14.kept ((Kept.refl NoM y13).alloc (.cells #[.int .i64 0, .int .i64 0, .int .i64 0, .int .i64 0, .int .i64 0, .slice none 0 0, .int .i64 0, .slice none 0 0, .slice none 0 0] 32 (0, 0)))
  obtain ⟨g13, cap13, zW13, zg13, r13, rows13⟩ := T14.reps (by decide)
  have r13 : y13.cell? ⟨W, 0, none⟩ = some (.slice (some ⟨g13, 0, none⟩) 3 cap13) := r13
  obtain ⟨la13, lc13, va13, vc13, ma13, mc13, f13, _, _, _⟩ := rows13 1 _ rfl
  have c13_13 : y13.cell? ⟨g13, 13, none⟩ = some (.int .i64 3) := f13 4 _ rfl
  have c13_11 : y13.cell? ⟨g13, 11, none⟩ = some (.int .i64 3) := f13 2 _ rfl
  have c13_14 : y13.cell? ⟨g13, 14, none⟩ = some (.slice la13 1 lc13) := f13 5 _ rfl
  have KF := Lib.hid T15.base
  clear f13 rows13 T14 T15
  go_wp2_with (first | (go_at_call 17; refine (admit_ge 2 3 (by omega) _).mono ?_; rintro e w' ⟨rfl, rfl⟩) | (go_at_call 17; refine (admit_lt 3 2 (by omega) _).mono ?_; rintro e w' ⟨rfl, rfl⟩))
  go_ret
  exact ⟨rfl, KF.out⟩
end Go.Proofs.YtgohploghbimlaaDoor
