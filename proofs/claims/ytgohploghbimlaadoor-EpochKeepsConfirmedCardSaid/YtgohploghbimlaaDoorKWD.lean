/- Texts that belong together: WD, RC, RD. -/
import Derived.Test.YtgohploghbimlaaDoorKWA
import Derived.Test.YtgohploghbimlaaDoorKDeed
import Derived.Deep.RegionLawGrows
import Derived.Test.YtgohploghbimlaaDoorKRB
import Derived.Test.YtgohploghbimlaaDoorKWE
import Derived.Test.YtgohploghbimlaaDoorKOwn
import Derived.Test.YtgohploghbimlaaDoorKPlain
set_option linter.unusedVariables false
set_option linter.unusedSimpArgs false
set_option linter.unusedSectionVars false
/- Walk: send. -/
namespace Go.Proofs.YtgohploghbimlaaDoor
open Go.RowKit
set_option maxHeartbeats 400000
variable [A : Inhabited (Nat → Prop)]

theorem send_ok (D : Nat) (O : Option Nat) (r : Rep) (ls : List Let) (w : World) (hd : Deed w D O r ls) (m : Let) (b : Nat) (iv : Value)
    (hb : w.heap[b]? = some (.cells #[.int .i64 m.kind, .int .i64 m.src, .int .i64 m.dst, .int .i64 m.ep, .int .i64 m.pos, .int .i64 m.aep, iv, .int .i64 m.conf, .bool m.yes] 57 (0, 0)))
    (hiv : RdItems w (ND D O) iv m.items) (hbM : ¬ MD D O b) (hl : ls.length ≤ 100000) :
    Calls Tryd.prog 40 #[.pointer (some ⟨D, 0, none⟩), .slice (some ⟨b, 0, none⟩) 1 1] w fun e w' =>
      e = .returned (.tuple #[]) ∧ DStep D O w r (ls ++ [{ m with src := r.id, ep := r.epoch }]) w' ∧ ∀ i, i < 9 → w'.cell? ⟨D, i, none⟩ = w.cell? ⟨D, i, none⟩ := by
  obtain ⟨lv, vv, mv, tv, hD, hlv, hvv, hmv, hown, hOD⟩ := hd
  have hDs := lt_of_block hD
  have hbs := lt_of_block hb
  have hbD : ¬ b = D := fun h => hbM (.inl h)
  obtain ⟨ia, icap, rfl, _, _⟩ := hiv.shape
  obtain ⟨ta, tcap, rfl, _, _, _, _⟩ := hown.shape
  obtain ⟨w0, e0, qlv, qvv, qmv, qown, qb, qiv, zD, zb⟩ : ∃ w0, w = putB w0 D _ 77 ∧ RdItems w0 (ND D O) lv r.log ∧ RdBools w0 (ND D O) vv r.votes ∧ RdInts w0 (ND D O) mv r.mat ∧ OwnS w0 O 57 9 (ELet w0 (ND D O)) _ ls ∧ w0.heap[b]? = some _ ∧ RdItems w0 (ND D O) _ m.items ∧ D < w0.heap.size ∧ b < w0.heap.size :=
    ⟨w, putB_self hD, hlv, hvv, hmv, hown, hb, hiv, hDs, hbs⟩
  subst e0
  clear hlv hvv hmv hown hb hiv hDs hbs hD
  have c0 := cell_blk qb 0 _ rfl
  have c1 := cell_blk qb 1 _ rfl
  have c2 := cell_blk qb 2 _ rfl
  have c3 := cell_blk qb 3 _ rfl
  have c4 := cell_blk qb 4 _ rfl
  have c5 := cell_blk qb 5 _ rfl
  have c6 := cell_blk qb 6 _ rfl
  have c7 := cell_blk qb 7 _ rfl
  have c8 := cell_blk qb 8 _ rfl
  have Hb := Lib.hid qb; clear qb
  have kk : ∀ c L1 L2, Kept (fun k => k = D) w0 ((((putB w0 D c 77).alloc L1).alloc L2).drew.drew) := fun c L1 L2 => ((((Kept.refl (fun k => k = D) w0).putM (b := D) rfl _ _).alloc _).alloc _).drew.drew
  have bD : ∀ c L1 L2, ((((putB w0 D c 77).alloc L1).alloc L2).drew.drew).heap[D]? = some (.cells c 77 (0, 0)) := fun c L1 L2 => blk_drew (blk_drew (blk_old (blk_old (putB_blk _ _ _ _ zD) _) _))
  have bN : ∀ c L1 L2, ((((putB w0 D c 77).alloc L1).alloc L2).drew.drew).heap[w0.heap.size + 1]? = some L2 := fun c L1 L2 => blk_drew (blk_drew (blk_new' _ _ _ (by simp)))
  have hO : ∀ g, O = some g → ¬ g = D := fun g hg h => hOD (by rw [hg, h])
  go_enter Tryd.func40, Tryd.ntmps40
  go_wp2
  refine wp_loop_rounds 2 ?_
  rw [rounds_succ]
  go_wp2
  go_region
  go_wp2
  go_region_law (refine step_append_S (M := NoM) (E := ELet w0 (ND D O)) rfl (.tmp 28) (.tmp 30) 25 rfl 88 tyLets _ rfl (qown.kept (kk _ _ _) hO (fun _ _ h => h)) _ rfl (rd_one (x := { m with src := r.id, ep := r.epoch }) (bN _ _ _) (fun h => h) ⟨_, rfl, qiv⟩ rfl) eLet_one ls.length 1 rfl rfl (by unfold maxLen; omega) (by omega) ?_; intro a1 cap1 w1 O1 hown1 hk1 hn1; have hz1 := hk1.size; simp at hz1; obtain ⟨w2, e2, own2, k2, hz2, hz3⟩ : ∃ w2, w1 = putB w2 D _ 77 ∧ OwnS w2 O1 57 9 (ELet w0 (ND D O)) _ _ ∧ Kept (fun k => some k = O) _ w2 ∧ D < w2.heap.size ∧ w0.heap.size + 2 ≤ w2.heap.size := ⟨w1, putB_self (hk1.blk (bD _ _ _) (fun h => hOD h.symm)), hown1, hk1, by omega, by omega⟩; subst e2)
  all_goals
    go_wp2
    rw [rounds_succ]
    go_wp2
    go_end0
    have K2 : Kept (MD D O) w0 w2 := (((kk _ _ _).mono (fun i _ h => .inl h)).trans (k2.mono (M' := MD D O) (fun i _ h => .inr h)))
    have K4 : ∀ c, Kept (MD D O) w0 (putB w2 D c 77) := fun c => (K2.putM (b := D) (.inl rfl) c 77)
    have N1 := hn1.of_le (w := w0) (by simp; omega)
    refine ⟨rfl, DStep.mk zD hOD (K4 _) (putB_blk _ _ _ _ hz2) qlv qvv qmv (own2.kept (M := fun k => k = D) ?_ (fun g hg h => (N1.ne hOD zD) (by rw [hg, h])) (fun _ _ h => h)) N1, fun i hi => ?_⟩
    · exact ((Kept.refl (fun k => k = D) w2).putM (b := D) rfl _ _)
    · rw [putB_cell _ _ _ _ _ zD, putB_cell _ _ _ _ _ hz2]
      match i, hi with
      | 0, _ | 1, _ | 2, _ | 3, _ | 4, _ | 5, _ | 6, _ | 7, _ | 8, _ => rfl
end Go.Proofs.YtgohploghbimlaaDoor

/- Walks of the specification: toAll. -/
namespace Go.Proofs.YtgohploghbimlaaDoor
open Go.RowKit
set_option maxHeartbeats 1000000
set_option maxRecDepth 4000

/-- letters that were made since block n0 -/
def Sends (n0 : Nat) (w : World) (v : Value) (ls : List Let) : Prop := ∃ Ox, OwnS w Ox 57 9 (ELet w (fun k => k < n0 ∨ some k = Ox)) v ls ∧ ∀ g, Ox = some g → n0 ≤ g

theorem Sends.nil (n0 : Nat) (w : World) : Sends n0 w (.slice none 0 0) [] := ⟨none, OwnS.nil _ _ _ _, by simp⟩
theorem Sends.kept {n0 : Nat} {w w' : World} {v : Value} {ls : List Let} (h : Sends n0 w v ls) (k : Kept NoM w w') : Sends n0 w' v ls := by
  obtain ⟨Ox, h1, h2⟩ := h
  exact ⟨Ox, h1.kept k (fun _ _ x => x) (fun _ _ x => x.kept k.of_no), h2⟩
theorem Sends.step {n0 : Nat} {w w' : World} {v' : Value} {ls' : List Let} {Ox O1 : Option Nat} (h2 : ∀ g, Ox = some g → n0 ≤ g) (hn : n0 ≤ w.heap.size)
    (ho : OwnS w' O1 57 9 (ELet w (fun k => k < n0 ∨ some k = Ox)) v' ls') (k : Kept (fun k => some k = Ox) w w') (n : NewO w Ox O1) : Sends n0 w' v' ls' := by
  refine ⟨O1, ho.map (fun _ _ x => ?_), ?_⟩
  · refine ELet.step x (k.mono fun _ _ h => .inr h) ?_
    rintro i hi (h | h)
    · exact .inl h
    · rcases n with rfl | ⟨g, rfl, hg⟩
      · exact .inr h
      · simp only [Option.some.injEq] at h; omega
  · intro g hg
    rcases n with rfl | ⟨g', rfl, hg'⟩
    · exact h2 g hg
    · cases hg; omega
theorem Sends.rd {n0 : Nat} {w w' : World} {v : Value} {ls : List Let} (h : Sends n0 w v ls) (k : Kept (fun k => k < n0) w w') {M : Nat → Prop} (hM : ∀ i, M i → i < n0) : RdLets w' M v ls := by
  obtain ⟨Ox, h1, h2⟩ := h
  have hr : RdS w (fun k => k < n0) 9 (ELet w (fun k => k < n0 ∨ some k = Ox)) v ls := h1.rd (fun g hg h => by have := h2 g hg; omega)
  have hr2 : RdS w (fun k => k < n0) 9 (ELet w (fun k => k < n0)) v ls := RdS.mono hr (fun _ _ x => x) (by omega) (fun _ _ x => x.mono (fun _ _ y => .inl y))
  exact RdS.mono (RdS.kept hr2 k (fun _ _ x => x.kept k)) (fun i _ x => hM i x) (by omega) (fun _ _ x => x.mono (fun i _ y => hM i y))
theorem Sends.shape {n0 : Nat} {w : World} {v : Value} {ls : List Let} (h : Sends n0 w v ls) : ∃ a cap, v = .slice a ls.length cap := by
  obtain ⟨Ox, h1, h2⟩ := h
  obtain ⟨a, cap, h3, _⟩ := h1.shape
  exact ⟨a, cap, h3⟩

/-- a result that is put into the block B: what follows from a callee's result -/
theorem RSent.store {M : Nat → Prop} {w W w6 : World} {B : Nat} {r : Rep} {ls : List Let} {er : Int} {e : Ending} (h : RSent (fun i => i = B ∨ M i) W r ls er e w6) (K : Kept NoM w W) (hB : B < W.heap.size) (hwB : w.heap.size ≤ B) :
    ∃ la lc va vc ma mc ta tc, e = .returned (.agg #[.int .i64 r.id, .int .i64 r.count, .int .i64 r.epoch, .int .i64 r.voted, .int .i64 r.role, .slice la r.log.length lc, .int .i64 r.conf, .slice va r.votes.length vc, .slice ma r.mat.length mc, .slice ta ls.length tc, .int .i64 er]) ∧ B < w6.heap.size ∧ Kept NoM W w6 ∧
      ∀ c t, RSent M w r ls er (.returned (.agg #[.int .i64 r.id, .int .i64 r.count, .int .i64 r.epoch, .int .i64 r.voted, .int .i64 r.role, .slice la r.log.length lc, .int .i64 r.conf, .slice va r.votes.length vc, .slice ma r.mat.length mc, .slice ta ls.length tc, .int .i64 er])) (putB w6 B c t) := by
  obtain ⟨lv, vv, mv, tv, h1, h2, h3, h4, h5, h6⟩ := h
  obtain ⟨la, lc, rfl, _, _⟩ := h2.shape
  obtain ⟨va, vc, rfl, _, _⟩ := h3.shape
  obtain ⟨ma, mc, rfl, _, _⟩ := h4.shape
  obtain ⟨ta, tc, rfl, _, _⟩ := h5.shape
  refine ⟨la, lc, va, vc, ma, mc, ta, tc, h1, by have := h6.size; omega, h6, fun c t => ?_⟩
  have KB : Kept (fun i => i = B) w6 (putB w6 B c t) := (Kept.refl (fun i => i = B) w6).putM (b := B) rfl c t
  have KB2 : Kept (fun k => k < W.heap.size ∧ (k = B ∨ M k)) w6 (putB w6 B c t) := KB.mono (fun i _ h => by have h : i = B := h; subst h; exact ⟨hB, .inl rfl⟩)
  have hw := K.size
  have hm : ∀ i, i < w6.heap.size → (i < w.heap.size ∧ M i) → (i < W.heap.size ∧ (i = B ∨ M i)) := fun i _ x => ⟨by omega, .inr x.2⟩
  exact ⟨_, _, _, _, rfl, h2.step KB2 hm, h3.step KB2 hm, h4.step KB2 hm, h5.step KB2 hm, (K.trans h6).putN hwB c t⟩

theorem RSent.weak {M : Nat → Prop} {w w6 : World} {r : Rep} {ls : List Let} {er : Int} {e : Ending} (h : RSent (fun i => i < w.heap.size ∧ M i) w r ls er e w6) : RSent M w r ls er e w6 := by
  obtain ⟨lv, vv, mv, tv, h1, h2, h3, h4, h5, h6⟩ := h
  have hm : ∀ i, i < w6.heap.size → (i < w.heap.size ∧ M i) → (i < w.heap.size ∧ (i < w.heap.size ∧ M i)) := fun i _ x => ⟨x.1, x⟩
  exact ⟨lv, vv, mv, tv, h1, h2.mono hm, h3.mono hm, h4.mono hm, h5.mono hm, h6⟩

theorem toAll_ok (r : Rep) (lv vv mv : Value) (M : Nat → Prop) (w : World) (hlv : RdItems w M lv r.log) (hvv : RdBools w M vv r.votes) (hmv : RdInts w M mv r.mat)
    (hc1 : 0 ≤ r.count) (hc2 : r.count ≤ 1000) (hmc : (r.mat.length : Int) = r.count) (hm : ∀ x ∈ r.mat, 0 ≤ x ∧ x ≤ r.log.length) (hll : r.log.length ≤ 10000) :
    Calls Tryd.prog 42 #[.agg #[.int .i64 r.id, .int .i64 r.count, .int .i64 r.epoch, .int .i64 r.voted, .int .i64 r.role, lv, .int .i64 r.conf, vv, mv]] w (RSent M w r ((othersF r.count.toNat r.id).map (logLet r)) 0) := by
  obtain ⟨n, hn⟩ := Int.eq_ofNat_of_zero_le hc1
  rw [hn] at hmc
  have hcn : r.count.toNat = n := by omega
  rw [hcn]
  obtain ⟨la, lcap, rfl, hlc, hlm⟩ := hlv.shape
  obtain ⟨va, vcap, rfl, _, _⟩ := hvv.shape
  obtain ⟨ma, mcap, rfl, _, _⟩ := hmv.shape
  have K2 : ∀ a b, Kept NoM w ((w.alloc a).alloc b) := fun a b => ((Kept.refl NoM w).alloc a).alloc b
  have HM := Lib.hid hm
  have HMC := Lib.hid hmc
  clear hm hmc hcn
  have hn2 : (n : Int) ≤ 1000 := by omega
  have HC := Lib.hid hn
  clear hn
  go_enter Tryd.func42, Tryd.ntmps42
  go_wp2
  go_loopw [3, 4] (fun v i wr => ∃ k : Nat, k ≤ n ∧ i = .int .i64 k ∧ 
    wr.heap[w.heap.size]? = some (.cells #[.int .i64 r.id, .int .i64 r.count, .int .i64 r.epoch, .int .i64 r.voted, .int .i64 r.role, .slice la r.log.length lcap, .int .i64 r.conf, .slice va r.votes.length vcap, .slice ma r.mat.length mcap] 32 (0, 0)) ∧
    wr.heap[w.heap.size + 1]? = some (.cells #[.int .i64 0, .int .i64 0, .int .i64 0, .int .i64 0, .int .i64 0, .slice none 0 0, .int .i64 0, .slice none 0 0, .slice none 0 0, .slice none 0 0, .int .i64 0] 62 (0, 0)) ∧
    Sends (w.heap.size + 2) wr v ((othersF k r.id).map (logLet r)) ∧ Kept NoM w wr) (fun _ i _ => n - (intOf i).toNat)
  case atStart =>
    refine ⟨0, Nat.zero_le _, rfl, ?_, ?_, Sends.nil _ _, K2 _ _⟩
    · exact blk_old (blk_new' w _ w.heap.size rfl) _
    · exact blk_new' _ _ _ (by simp)
  case round =>
    obtain ⟨k, hk, rfl, b0, b1, hs, hK⟩ := hrel
    have hz := lt_of_block b1
    have hsz := othersF_succ k r.id
    have hlen := othersF_len k r.id
    obtain ⟨L, hL⟩ : ∃ L, L = (othersF k r.id).map (logLet r) := ⟨_, rfl⟩
    have hLl : L.length ≤ 1000 := by rw [hL]; simp; omega
    rw [← hL] at hs
    have HL := Lib.hid hL
    have HSZ := Lib.hid hsz
    clear hsz hL
    have c00 := cell_blk b0 0 _ rfl
    have c01 := cell_blk b0 1 _ rfl
    by_cases hlt : k < n
    · have hlti : (k : Int) < r.count := by have := HC.out; omega
      by_cases hid : (k : Int) = r.id
      · have t1 : ((k : Int) != r.id) = false := by rw [bne_eq_false_iff_eq]; exact hid
        have e1 : othersF (k + 1) r.id = othersF k r.id := by rw [HSZ.out, if_pos hid]; simp
        have E1 := Lib.hid (show (othersF (k + 1) r.id).map (logLet r) = L by rw [e1, HL.out])
        clear e1 hid
        go_wp2
        go_roundw
        case rel => exact ⟨k + 1, by omega, by go_num, b0, b1, by rw [E1.out]; exact hs, hK⟩
        case measure => simp [intOf]; omega
      · have t1 : ((k : Int) != r.id) = true := by rw [bne_iff_ne]; exact hid
        have e1 : (othersF (k + 1) r.id).map (logLet r) = L ++ [logLet r k] := by rw [HSZ.out, if_neg hid, HL.out]; simp
        have E1 := Lib.hid e1
        have c02 := cell_blk b0 2 _ rfl
        have c03 := cell_blk b0 3 _ rfl
        have c04 := cell_blk b0 4 _ rfl
        have c05 := cell_blk b0 5 _ rfl
        have c06 := cell_blk b0 6 _ rfl
        have c07 := cell_blk b0 7 _ rfl
        have c08 := cell_blk b0 8 _ rfl
        have B0 := Lib.hid b0
        have B1 := Lib.hid b1
        clear e1 hid b0 b1
        go_wp2_with fail
        refine (appending_ok r k _ _ _ wr (hlv.any.kept hK) (hvv.any.kept hK) (hmv.any.kept hK) (by have := HMC.out; omega) HM.out hll).mono ?_
        rintro e w1 ⟨iv, rfl, hiv, hk1⟩
        obtain ⟨Ox, own, hO⟩ := hs
        have hOw : ∀ g, Ox = some g → g < wr.heap.size := own.lt
        have own := own.kept hk1 (fun _ _ x => x) (fun _ _ x => x.kept hk1.of_no)
        obtain ⟨va1, vc1, rfl, _, _, _, _⟩ := own.shape
        obtain ⟨ia, icap, rfl, _, _⟩ := hiv.shape
        have hz1 := hk1.size
        clear c00 c01 c02 c03 c04 c05 c06 c07 c08
        have kk : ∀ o, Kept NoM w1 (w1.alloc o) := fun o => (Kept.refl NoM w1).alloc o
        have hoo : ∀ o, OwnS (w1.alloc o) Ox 57 9 (ELet (w1.alloc o) (fun k => k < w.heap.size + 2 ∨ some k = Ox)) _ _ := fun o => own.kept (kk o) (fun _ _ x => x) (fun _ _ x => x.kept (kk o).of_no)
        have hnb : ∀ o, (w1.alloc o).heap[w1.heap.size]? = some o := fun o => blk_new w1 o
        
        have hiv2 : ∀ o, RdItems (w1.alloc o) (fun k => k < w.heap.size + 2 ∨ some k = Ox) (.slice ia (logLet r k).items.length icap) (logLet r k).items := fun o =>
          RdItems.step hiv ((Kept.refl _ w1).alloc o) (fun i _ h => by
            rcases h with h | h
            · show i < wr.heap.size; omega
            · exact hOw i h.symm)
        have hrd : ∀ o, o = .cells #[.int .i64 3, .int .i64 r.id, .int .i64 k, .int .i64 r.epoch, .int .i64 (logLet r k).pos, .int .i64 (logLet r k).aep, .slice ia (logLet r k).items.length icap, .int .i64 r.conf, .bool false] 57 (0, 0) → RdS (w1.alloc o) NoM 9 (ELet (w1.alloc o) (fun k => k < w.heap.size + 2 ∨ some k = Ox)) (.slice (some ⟨w1.heap.size, 0, none⟩) 1 1) [logLet r k] := fun o ho => by
          rw [ho]; exact rd_one (x := logLet r k) (blk_new _ _) (fun h => h) ⟨_, rfl, hiv2 _⟩ rfl
        go_wp2_with (at_builtin; refine wpList_append_S (M := NoM) rfl (.tmp 15) (.tmp 19) 25 rfl 88 tyLets _ rfl (hoo _) _ rfl (hrd _ rfl) eLet_one L.length 1 rfl rfl (by unfold maxLen; omega) (by omega) ?_; intro a1 cap1 w2 O1 hown1 hk2 hn1)
        have S1 := Sends.step hO (by simp; omega) hown1 hk2 hn1
        have k2 : Kept (fun k => some k = Ox) wr w2 := ((hk1.trans (kk _)).of_no).trans hk2
        go_roundw
        case rel => exact ⟨k + 1, by omega, by go_num, k2.blk B0.out (fun h => by have := hO _ h.symm; omega), k2.blk B1.out (fun h => by have := hO _ h.symm; omega), by rw [E1.out]; exact S1, hK.trans' k2 (fun i hi h => by have := hO i h.symm; omega)⟩
        case measure => simp [intOf]; omega
    · obtain rfl : k = n := by omega
      have hltf : decide ((k : Int) < r.count) = false := decide_eq_false (by have := HC.out; omega)
      obtain ⟨va1, vc1, rfl⟩ := hs.shape
      obtain ⟨w4, e4, z0, z1, K4, S4⟩ : ∃ w4, wr = putB (putB w4 w.heap.size _ 32) (w.heap.size + 1) _ 62 ∧ w.heap.size < w4.heap.size ∧ w.heap.size + 1 < w4.heap.size ∧ Kept NoM w w4 ∧ Sends (w.heap.size + 2) w4 _ L := ⟨wr, expose2a b0 b1, by omega, by omega, hK, hs⟩
      have KE : ∀ a c, Kept NoM w (putB (putB w4 w.heap.size a 32) (w.heap.size + 1) c 62) := fun a c => (K4.putN (b := w.heap.size) (by omega) a 32).putN (b := w.heap.size + 1) (by omega) c 62
      have KF : ∀ a c, Kept (fun k => k < w.heap.size + 2) w4 (putB (putB w4 w.heap.size a 32) (w.heap.size + 1) c 62) := fun a c => ((Kept.refl (fun k => k < w.heap.size + 2) w4).putM (b := w.heap.size) (show w.heap.size < w.heap.size + 2 by omega) a 32).putM (b := w.heap.size + 1) (show w.heap.size + 1 < w.heap.size + 2 by omega) c 62
      clear b0 b1 c00 c01 hlt
      subst e4
      go_wp2_with fail
      refine bodyPost_ret (v := .agg #[.int .i64 r.id, .int .i64 r.count, .int .i64 r.epoch, .int .i64 r.voted, .int .i64 r.role, .slice la r.log.length lcap, .int .i64 r.conf, .slice va r.votes.length vcap, .slice ma r.mat.length mcap, .slice va1 L.length vc1, .int .i64 0]) (by simp [results, Tryd.results42, go_sem, z0, z1]) rfl ?_
      rw [← HL.out]
      exact ⟨_, _, _, _, rfl, hlv.step (KE _ _).of_no (fun _ _ x => x.2), hvv.step (KE _ _).of_no (fun _ _ x => x.2), hmv.step (KE _ _).of_no (fun _ _ x => x.2), S4.rd (KF _ _) (fun i x => by have := x.1; omega), KE _ _⟩
end Go.Proofs.YtgohploghbimlaaDoor

/- Walks of the specification: lead. -/
namespace Go.Proofs.YtgohploghbimlaaDoor
open Go.RowKit
set_option maxHeartbeats 1000000
set_option maxRecDepth 4000

def matF (id : Int) (len : Nat) (k : Nat) : List Int := (List.range k).map fun (i : Nat) => if (i : Int) = id then (len : Int) else 0
theorem matF_succ (id : Int) (len k : Nat) : matF id len (k + 1) = matF id len k ++ [if (k : Int) = id then (len : Int) else 0] := by
  unfold matF; rw [List.range_succ, List.map_append]; rfl
theorem matF_len (id : Int) (len k : Nat) : (matF id len k).length = k := by unfold matF; simp
theorem matF_set (j len n : Nat) : matF j len n = (List.replicate n (0 : Int)).set j (len : Int) := by
  apply List.ext_getElem?
  intro i
  unfold matF
  rw [List.getElem?_map, List.getElem?_set, List.getElem?_replicate, List.length_replicate]
  by_cases h : i < n
  · rw [List.getElem?_range h]
    by_cases hj : j = i
    · subst hj; simp [h]
    · have : ¬ ((i : Int) = (j : Int)) := by omega
      simp [h, hj, this]
  · have : (List.range n)[i]? = none := by rw [List.getElem?_eq_none_iff]; simp; omega
    rw [this]
    by_cases hj : j = i
    · subst hj; simp [h]
    · simp [h, hj]

theorem rlead_ok (r : Rep) (lv vv mv : Value) (M : Nat → Prop) (w : World) (hlv : RdItems w M lv r.log) (hvv : RdBools w M vv r.votes) (hmv : RdInts w M mv r.mat)
    (hc1 : 1 ≤ r.count) (hc2 : r.count ≤ 1000) (hi0 : 0 ≤ r.id) (hi1 : r.id < r.count) (hf0 : 0 ≤ r.conf) (hll : r.log.length ≤ 10000) :
    Calls Tryd.prog 44 #[.agg #[.int .i64 r.id, .int .i64 r.count, .int .i64 r.epoch, .int .i64 r.voted, .int .i64 r.role, lv, .int .i64 r.conf, vv, mv]] w (RSent M w (leadF r).1 (leadF r).2 0) := by
  obtain ⟨n, hn⟩ := Int.eq_ofNat_of_zero_le (show 0 ≤ r.count by omega)
  obtain ⟨j, hj⟩ := Int.eq_ofNat_of_zero_le hi0
  obtain ⟨id, count, epoch, voted, role, log, conf, votes, mat⟩ := r
  simp only at *
  subst hn hj
  obtain ⟨la, lcap, rfl, hlc, hlm⟩ := hlv.shape
  obtain ⟨va, vcap, rfl, _, _⟩ := hvv.shape
  obtain ⟨ma, mcap, rfl, _, _⟩ := hmv.shape
  obtain ⟨ms, hms⟩ : ∃ ms, ms = matF j log.length n := ⟨_, rfl⟩
  have hset := settleF_lead ⟨j, n, epoch, voted, 3, log, conf, [], ms⟩ n j rfl (by omega) hf0 (by rw [hms]; exact matF_set _ _ _)
  have hF : leadF ⟨j, n, epoch, voted, role, log, conf, votes, mat⟩ = (settleF ⟨j, n, epoch, voted, 3, log, conf, [], ms⟩, (othersF n j).map (logLet (settleF ⟨j, n, epoch, voted, 3, log, conf, [], ms⟩))) := by
    unfold leadF
    simp only [Int.toNat_natCast]
    rw [hms, matF_set]
  have hml : ms.length = n := by rw [hms]; exact matF_len _ _ _
  have hmb : ∀ x ∈ ms, 0 ≤ x ∧ x ≤ log.length := by
    rw [hms]
    intro x hx
    unfold matF at hx
    obtain ⟨i, _, rfl⟩ := List.mem_map.1 hx
    split <;> omega
  have HF := Lib.hid hF
  have HSET := Lib.hid hset
  have HMS := Lib.hid hms
  have HML := Lib.hid hml
  have HMB := Lib.hid hmb
  clear hF hset hms hml hmb
  have K2 : ∀ a b, Kept NoM w ((w.alloc a).alloc b) := fun a b => ((Kept.refl NoM w).alloc a).alloc b
  go_enter Tryd.func44, Tryd.ntmps44
  go_wp2
  go_loopw [3] (fun i wr => ∃ k : Nat, k ≤ n ∧ i = .int .i64 k ∧ ∃ a cap Ox,
    wr.heap[w.heap.size]? = some (.cells #[.int .i64 j, .int .i64 n, .int .i64 epoch, .int .i64 voted, .int .i64 3, .slice la log.length lcap, .int .i64 conf, .slice none 0 0, .slice a k cap] 32 (0, 0)) ∧
    wr.heap[w.heap.size + 1]? = some (.cells #[.int .i64 0, .int .i64 0, .int .i64 0, .int .i64 0, .int .i64 0, .slice none 0 0, .int .i64 0, .slice none 0 0, .slice none 0 0, .slice none 0 0, .int .i64 0] 62 (0, 0)) ∧
    OwnS wr Ox 3 1 EInt (.slice a k cap) (matF j log.length k) ∧ (∀ g, Ox = some g → w.heap.size + 2 ≤ g) ∧ Kept NoM w wr) (fun i _ => n - (intOf i).toNat)
  case atStart =>
    refine ⟨0, Nat.zero_le _, rfl, none, 0, none, ?_, ?_, OwnS.nil _ _ _ _, by simp, K2 _ _⟩
    · exact blk_old (blk_new' w _ w.heap.size rfl) _
    · exact blk_new' _ _ _ (by simp)
  case round =>
    obtain ⟨k, hk, rfl, a, cap, Ox, b0, b1, own, hO, hK⟩ := hrel
    have hsz := matF_succ j log.length k
    have hlen := matF_len j log.length k
    obtain ⟨L, hL⟩ : ∃ L, L = matF j log.length k := ⟨_, rfl⟩
    rw [← hL] at hsz own hlen
    have HSZ := Lib.hid hsz
    have HL := Lib.hid hL
    clear hsz hL
    obtain ⟨w4, e4, z0, z1, K4, y1, own4⟩ : ∃ w4, wr = putB w4 w.heap.size _ 32 ∧ w.heap.size < w4.heap.size ∧ w.heap.size + 1 < w4.heap.size ∧ Kept NoM w w4 ∧ w4.heap[w.heap.size + 1]? = some _ ∧ OwnS w4 Ox 3 1 EInt _ L :=
      ⟨wr, putB_self b0, lt_of_block b0, lt_of_block b1, hK, b1, own⟩
    by_cases hlt : k < n
    · have hlti : (k : Int) < n := by omega
      have hOB : ∀ g, Ox = some g → ¬ g = w.heap.size := fun g hg => by have := hO g hg; omega
      have kk : ∀ o, Kept (fun k => k = w.heap.size) w4 (wr.alloc o) := fun o => by
        rw [e4]; exact ((Kept.refl (fun k => k = w.heap.size) w4).putM (b := w.heap.size) rfl _ _).alloc _
      have bB : ∀ o, (wr.alloc o).heap[w.heap.size]? = some (.cells _ 32 (0, 0)) := fun o => blk_old b0 _
      have Y1 := Lib.hid y1
      have HLN := Lib.hid hlen
      clear b0 b1 own y1 hlt hlen
      subst e4
      have hoo : ∀ c o, OwnS ((putB w4 w.heap.size c 32).alloc o) Ox 3 1 EInt (.slice a k cap) L := fun c o => own4.kept (((Kept.refl (fun k => k = w.heap.size) w4).putM (b := w.heap.size) rfl c 32).alloc o) hOB (fun _ _ h => h)
      have hrd : ∀ c (y : Int), RdS ((putB w4 w.heap.size c 32).alloc (.cells #[.int .i64 y] 3 (0, 0))) NoM 1 EInt (.slice (some ⟨w4.heap.size, 0, none⟩) 1 1) [y] := fun c y => rd_one (x := y) (blk_new' _ _ _ (by simp)) (fun h => h) rfl rfl
      have fin : ∀ c y w2 O1 a1 cap1, OwnS w2 O1 3 1 EInt (.slice a1 (k + 1) cap1) (L ++ [y]) → Kept (fun k => some k = Ox) ((putB w4 w.heap.size c 32).alloc (.cells #[.int .i64 y] 3 (0, 0))) w2 → NewO ((putB w4 w.heap.size c 32).alloc (.cells #[.int .i64 y] 3 (0, 0))) Ox O1 → y = (if (k : Int) = j then (log.length : Int) else 0) →
          ∀ d, (putB w2 w.heap.size d 32).heap[w.heap.size + 1]? = some (.cells #[.int .i64 0, .int .i64 0, .int .i64 0, .int .i64 0, .int .i64 0, .slice none 0 0, .int .i64 0, .slice none 0 0, .slice none 0 0, .slice none 0 0, .int .i64 0] 62 (0, 0)) ∧
            OwnS (putB w2 w.heap.size d 32) O1 3 1 EInt (.slice a1 (k + 1) cap1) (matF j log.length (k + 1)) ∧ (∀ g, O1 = some g → w.heap.size + 2 ≤ g) ∧ Kept NoM w (putB w2 w.heap.size d 32) := by
        intro c y w2 O1 a1 cap1 ho hk hn hy d
        have hO1 : ∀ g, O1 = some g → w.heap.size + 2 ≤ g := by
          intro g hg
          rcases hn with rfl | ⟨g', rfl, hg2⟩
          · exact hO g hg
          · cases hg; simp at hg2; omega
        refine ⟨?_, ?_, hO1, ?_⟩
        · rw [putB_blk_ne _ _ _ _ _ (by omega)]
          exact hk.blk (blk_old ((putB_blk_ne _ _ _ _ _ (by omega)).trans Y1.out) _) (fun h => by have := hO _ h.symm; omega)
        · rw [HSZ.out, ← hy]
          exact ho.kept ((Kept.refl (fun k => k = w.heap.size) w2).putM (b := w.heap.size) rfl _ _) (fun g hg h => by have := hO1 g hg; omega) (fun _ _ h => h)
        · exact Kept.putN ((((K4.putN (b := w.heap.size) (by omega) c 32).alloc _)).trans' hk (fun i hi h => by have := hO i h.symm; omega)) (by omega) _ _
      obtain ⟨x, hx⟩ : ∃ x : Int, x = if (k : Int) = j then (log.length : Int) else 0 := ⟨_, rfl⟩
      have hL2 : matF j log.length (k + 1) = L ++ [x] := by rw [HSZ.out, hx]
      have HL2 := Lib.hid hL2
      have HX := Lib.hid hx
      clear hL2 hx
      by_cases hid : k = j
      · have hx : x = log.length := by rw [HX.out, if_pos (by omega)]
        have t1 : ((k : Int) == (j : Int)) = true := by rw [beq_iff_eq]; omega
        have HX2 := Lib.hid hx
        clear hid hx
        go_wp2_with (at_builtin; go_loud (refine wpList_append_S (M := NoM) rfl (.tmp 22) (.tmp 24) 30 rfl 8 tyInts _ rfl (hoo _ _) _ rfl (hrd _ _) eInt_one k 1 HLN.out rfl (by unfold maxLen; omega) (by omega) ?_; intro a1 cap1 w1 O1 hown1 hk1 hn1; obtain ⟨w2, e2, own2, k2, hz2⟩ : ∃ w2, w1 = putB w2 w.heap.size _ 32 ∧ OwnS w2 O1 3 1 EInt _ _ ∧ Kept (fun k => some k = Ox) _ w2 ∧ w.heap.size < w2.heap.size := ⟨w1, putB_self (hk1.blk (blk_old (putB_blk _ _ _ _ z0) _) (fun h => hOB _ h.symm rfl)), hown1, hk1, by have := hk1.size; simp at this; omega⟩; subst e2))
        have FN := fin _ _ w2 O1 a1 cap1 own2 k2 hn1 (HX2.out.symm.trans HX.out)
        go_roundw
        case rel => exact ⟨k + 1, by omega, by go_num, a1, cap1, O1, putB_blk _ _ _ _ hz2, (FN _).1, (FN _).2.1, (FN #[]).2.2.1, (FN _).2.2.2⟩
        case measure => simp [intOf]; omega
      · have hx : x = 0 := by rw [HX.out, if_neg (by omega)]
        have t1 : ((k : Int) == (j : Int)) = false := by rw [beq_eq_false_iff_ne]; omega
        have HX2 := Lib.hid hx
        clear hid hx
        go_wp2_with (at_builtin; go_loud (refine wpList_append_S (M := NoM) rfl (.tmp 22) (.tmp 24) 30 rfl 8 tyInts _ rfl (hoo _ _) _ rfl (hrd _ _) eInt_one k 1 HLN.out rfl (by unfold maxLen; omega) (by omega) ?_; intro a1 cap1 w1 O1 hown1 hk1 hn1; obtain ⟨w2, e2, own2, k2, hz2⟩ : ∃ w2, w1 = putB w2 w.heap.size _ 32 ∧ OwnS w2 O1 3 1 EInt _ _ ∧ Kept (fun k => some k = Ox) _ w2 ∧ w.heap.size < w2.heap.size := ⟨w1, putB_self (hk1.blk (blk_old (putB_blk _ _ _ _ z0) _) (fun h => hOB _ h.symm rfl)), hown1, hk1, by have := hk1.size; simp at this; omega⟩; subst e2))
        have FN := fin _ _ w2 O1 a1 cap1 own2 k2 hn1 (HX2.out.symm.trans HX.out)
        go_roundw
        case rel => exact ⟨k + 1, by omega, by go_num, a1, cap1, O1, putB_blk _ _ _ _ hz2, (FN _).1, (FN _).2.1, (FN #[]).2.2.1, (FN _).2.2.2⟩
        case measure => simp [intOf]; omega
    · obtain rfl : k = n := by omega
      have hltf : decide ((k : Int) < (k : Int)) = false := decide_eq_false (by omega)
      have hLm : L = ms := by rw [HL.out, HMS.out]
      rw [hLm] at own
      have HLM := Lib.hid hLm
      clear hLm hlen own4 y1 z0 z1 K4
      obtain ⟨w5, e5, z0, z1, K5, own5⟩ : ∃ w5, wr = putB (putB w5 w.heap.size _ 32) (w.heap.size + 1) _ 62 ∧ w.heap.size < w5.heap.size ∧ w.heap.size + 1 < w5.heap.size ∧ Kept NoM w w5 ∧ OwnS w5 Ox 3 1 EInt _ ms := ⟨wr, expose2a b0 b1, lt_of_block b0, lt_of_block b1, hK, own⟩
      clear b0 b1 own hK e4
      subst e5
      have KE : ∀ a c, Kept NoM w (putB (putB w5 w.heap.size a 32) (w.heap.size + 1) c 62) := fun a c => (K5.putN (b := w.heap.size) (by omega) a 32).putN (b := w.heap.size + 1) (by omega) c 62
      have NM : ∀ i, i < w.heap.size → (i = w.heap.size + 1 ∨ (i < w.heap.size ∧ M i)) → M i := fun i hi h => by
        rcases h with h | h
        · omega
        · exact h.2
      have rdE : ∀ x y, RdInts (putB (putB w5 w.heap.size x 32) (w.heap.size + 1) y 62) (fun i => i = w.heap.size + 1 ∨ (i < w.heap.size ∧ M i)) (.slice a k cap) ms := fun x y => by
        have h1 : RdInts w5 (fun i => i < w.heap.size + 2) (.slice a k cap) ms := own5.rd (M := fun i => i < w.heap.size + 2) (fun g hg h => by have := hO g hg; have h : g < w.heap.size + 2 := h; omega)
        refine (h1.kept (((Kept.refl (fun i => i < w.heap.size + 2) w5).putM (b := w.heap.size) (show w.heap.size < w.heap.size + 2 by omega) x 32).putM (b := w.heap.size + 1) (show w.heap.size + 1 < w.heap.size + 2 by omega) y 62)).mono (fun i _ h => ?_)
        show i < w.heap.size + 2
        rcases h with h | h <;> omega
      clear own5
      by_cases hk1 : k = 1
      · have t1 : ((k : Int) == 1) = true := by rw [beq_iff_eq]; omega
        have hF2 : leadF ⟨j, k, epoch, voted, role, log, conf, votes, mat⟩ = (⟨j, k, epoch, voted, 3, log, log.length, [], ms⟩, (othersF k j).map (logLet ⟨j, k, epoch, voted, 3, log, log.length, [], ms⟩)) := by
          rw [HF.out, HSET.out, if_pos (by omega)]
        have HF2 := Lib.hid hF2
        have ta := fun x y => toAll_ok ⟨j, k, epoch, voted, 3, log, log.length, [], ms⟩ (.slice la log.length lcap) (.slice none 0 0) (.slice a k cap) _ (putB (putB w5 w.heap.size x 32) (w.heap.size + 1) y 62) (hlv.step (KE _ _).of_no NM) (RdBools.nil _ _) (rdE x y) (by dsimp only; omega) (by dsimp only; omega) (by dsimp only; rw [HML.out]) HMB.out hll
        simp only [Int.toNat_natCast] at ta
        have TA := Lib.hid ta
        clear hk1 hF2 ta rdE HF HSET
        go_wp2_with fail
        refine (TA.out _ _).mono ?_
        intro e w6 hs
        obtain ⟨la6, lc6, va6, vc6, ma6, mc6, ta6, tc6, e6, hB6, k6, fin⟩ := hs.store (KE _ _) (by simp; omega) (by omega)
        subst e6
        have b6 := k6.blk (k := w.heap.size + 1) (putB_blk _ _ _ _ (by simp; omega)) (fun x => x)
        obtain ⟨w7, e7, z7, fin7⟩ : ∃ w7, w6 = putB w7 (w.heap.size + 1) _ 62 ∧ w.heap.size + 1 < w7.heap.size ∧ ∀ c t, RSent _ w _ _ _ _ (putB w7 (w.heap.size + 1) c t) := ⟨w6, putB_self b6, hB6, fin⟩
        subst e7
        clear fin b6
        go_wp2_with fail
        refine bodyPost_ret (v := .agg #[.int .i64 j, .int .i64 k, .int .i64 epoch, .int .i64 voted, .int .i64 3, .slice la6 log.length lc6, .int .i64 log.length, .slice va6 0 vc6, .slice ma6 ms.length mc6, .slice ta6 ((othersF k j).map (logLet ⟨j, k, epoch, voted, 3, log, log.length, [], ms⟩)).length tc6, .int .i64 0]) (by simp [results, Tryd.results44, go_sem, z7]) rfl ?_
        rw [HF2.out]
        exact (fin7 _ _).weak
      · have t1 : ((k : Int) == 1) = false := by rw [beq_eq_false_iff_ne]; omega
        have hF2 : leadF ⟨j, k, epoch, voted, role, log, conf, votes, mat⟩ = (⟨j, k, epoch, voted, 3, log, conf, [], ms⟩, (othersF k j).map (logLet ⟨j, k, epoch, voted, 3, log, conf, [], ms⟩)) := by
          rw [HF.out, HSET.out, if_neg (by omega)]
        have HF2 := Lib.hid hF2
        have ta := fun x y => toAll_ok ⟨j, k, epoch, voted, 3, log, conf, [], ms⟩ (.slice la log.length lcap) (.slice none 0 0) (.slice a k cap) _ (putB (putB w5 w.heap.size x 32) (w.heap.size + 1) y 62) (hlv.step (KE _ _).of_no NM) (RdBools.nil _ _) (rdE x y) (by dsimp only; omega) (by dsimp only; omega) (by dsimp only; rw [HML.out]) HMB.out hll
        simp only [Int.toNat_natCast] at ta
        have TA := Lib.hid ta
        clear hk1 hF2 ta rdE HF HSET
        go_wp2_with fail
        refine (TA.out _ _).mono ?_
        intro e w6 hs
        obtain ⟨la6, lc6, va6, vc6, ma6, mc6, ta6, tc6, e6, hB6, k6, fin⟩ := hs.store (KE _ _) (by simp; omega) (by omega)
        subst e6
        have b6 := k6.blk (k := w.heap.size + 1) (putB_blk _ _ _ _ (by simp; omega)) (fun x => x)
        obtain ⟨w7, e7, z7, fin7⟩ : ∃ w7, w6 = putB w7 (w.heap.size + 1) _ 62 ∧ w.heap.size + 1 < w7.heap.size ∧ ∀ c t, RSent _ w _ _ _ _ (putB w7 (w.heap.size + 1) c t) := ⟨w6, putB_self b6, hB6, fin⟩
        subst e7
        clear fin b6
        go_wp2_with fail
        refine bodyPost_ret (v := .agg #[.int .i64 j, .int .i64 k, .int .i64 epoch, .int .i64 voted, .int .i64 3, .slice la6 log.length lc6, .int .i64 conf, .slice va6 0 vc6, .slice ma6 ms.length mc6, .slice ta6 ((othersF k j).map (logLet ⟨j, k, epoch, voted, 3, log, conf, [], ms⟩)).length tc6, .int .i64 0]) (by simp [results, Tryd.results44, go_sem, z7]) rfl ?_
        rw [HF2.out]
        exact (fin7 _ _).weak
end Go.Proofs.YtgohploghbimlaaDoor
