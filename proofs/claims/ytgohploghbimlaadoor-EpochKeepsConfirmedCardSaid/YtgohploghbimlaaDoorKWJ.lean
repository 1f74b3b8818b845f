/- Texts that belong together: WJ, WK, WL. -/
import Derived.Test.YtgohploghbimlaaDoorKWI
import Derived.Test.YtgohploghbimlaaDoorKWH
import Derived.Test.YtgohploghbimlaaDoorKOwn
import Derived.BigRegion
set_option linter.unusedVariables false
set_option linter.unusedSimpArgs false
set_option linter.unusedSectionVars false
/- Walk: settle. -/
namespace Go.Proofs.YtgohploghbimlaaDoor
open Go.RowKit
set_option maxHeartbeats 1000000

theorem median_mem {l : List Int} {k : Nat} (h : k < l.length) : (sortF l)[k]? = some (median l k) ∧ median l k ∈ l := by
  have hl : k < (sortF l).length := by rw [sortF_len]; exact h
  have e : (sortF l)[k]? = some (median l k) := by
    unfold median sortF at *
    simp only [List.getD]
    rw [List.getElem?_eq_getElem hl]
    rfl
  refine ⟨e, ?_⟩
  have := List.mem_of_getElem? e
  exact (List.mergeSort_perm l _).mem_iff.1 this

variable [A : Inhabited (Nat → Prop)]
theorem settle_ok (D : Nat) (O : Option Nat) (r : Rep) (ls : List Let) (w : World) (hd : Deed w D O r ls) (hc : (r.mat.length : Int) = r.count) (hc1 : 1 ≤ r.count) (hc2 : r.count ≤ 1000)
    (hmat : ∀ x ∈ r.mat, 0 ≤ x ∧ x ≤ r.log.length) (hll : r.log.length ≤ 10000) :
    Calls Tryd.prog 60 #[.pointer (some ⟨D, 0, none⟩)] w fun e w' => e = .returned (.tuple #[]) ∧ DStep D O w (settleF r) ls w' := by
  have dd := Lib.hid hd
  obtain ⟨lv, vv, mv, tv, hD, hlv, hvv, hmv, hown, hOD⟩ := hd
  obtain ⟨la, lcap, rfl, hlc, hlm⟩ := hlv.shape
  have hDs := lt_of_block hD
  obtain ⟨w0, e0, qlv, qvv, qmv, qown, zD⟩ : ∃ w0, w = putB w0 D _ 77 ∧ RdItems w0 (ND D O) _ r.log ∧ RdBools w0 (ND D O) vv r.votes ∧ RdInts w0 (ND D O) mv r.mat ∧ OwnS w0 O 57 9 (ELet w0 (ND D O)) _ ls ∧ D < w0.heap.size :=
    ⟨w, putB_self hD, hlv, hvv, hmv, hown, hDs⟩
  subst e0
  clear hlv hvv hmv hown hDs hD
  by_cases h1 : r.count = 1
  · have hb1 : (r.count == 1) = true := by rw [beq_iff_eq]; exact h1
    have hF : settleF r = { r with conf := r.log.length } := by unfold settleF; rw [if_pos h1]
    rw [hF]
    have H1 := Lib.hid h1; have HC := Lib.hid hc; clear h1 hc hF
    go_enter Tryd.func60, Tryd.ntmps60
    go_wp2
    refine bodyPost_ret (results_none rfl _ _ _) rfl ?_
    exact ⟨rfl, DStep.mk0 (r := { r with conf := r.log.length }) zD hOD (keptD _ _ _) (putB_blk _ _ _ _ zD) qlv qvv qmv qown⟩
  · have hb1 : (r.count == 1) = false := by rw [beq_eq_false_iff_ne]; exact h1
    have hk : ((r.count - 1) / 2).toNat < r.mat.length := by omega
    obtain ⟨hme, hmm⟩ := median_mem hk
    have hmb := hmat _ hmm
    obtain ⟨nn, hnn⟩ := Int.eq_ofNat_of_zero_le hmb.1
    have hF : settleF r = if (nn : Int) > r.conf ∧ lastF (r.log.take nn) = r.epoch then { r with conf := nn } else r := by
      unfold settleF; rw [if_neg h1]; simp only [hnn]; rfl
    have HF := Lib.hid hF
    have HK := Lib.hid hk
    rw [hnn] at hme hmb
    have HM := Lib.hid hme
    have HC := Lib.hid hc
    clear h1 hc hF hk hme hmm hnn
    obtain ⟨ii, iz, t1, t2, _, t4, _⟩ := tyItems
    obtain ⟨sa1, sc1, hsl1, hrd1⟩ := RdS.slice 28 45 ii t1 t2 t4 qlv 0 nn (Nat.zero_le _) (by omega) none (.inr ⟨rfl, rfl⟩)
    simp only [Nat.sub_zero, List.drop_zero] at hsl1 hrd1
    clear t1 t2 t4
    have hbl1 : r.mat.length ≤ 1000000000 := by have := HC.out; omega
    have hbl2 : r.mat.length ≤ 1000000 := by have := HC.out; omega
    have hbl3 : (r.log.take nn).length ≤ 1000000000 := by simp; omega
    go_enter Tryd.func60, Tryd.ntmps60
    go_wp2_with fail
    refine (clone59_ok _ _ _ _ (qmv.kept ((Kept.refl _ _).putM (.inl rfl) _ _)) hbl1).mono ?_
    rintro e w1 ⟨ca, ccap, Oc, rfl, hoc, hnc, hkc⟩
    have hkz := Nat.lt_of_lt_of_le zD (Nat.le_trans (Nat.le_of_eq (putB_size _ _ _ _).symm) hkc.size)
    obtain ⟨w2, e2, z2⟩ : ∃ w2, w1 = putB w2 D _ 77 ∧ D < w2.heap.size := ⟨w1, putB_self (hkc.blk (putB_blk _ _ _ _ zD) (fun x => x)), hkz⟩
    subst e2
    go_wp2_with fail
    refine (sort_ok _ _ _ _ _ hoc hbl2).mono ?_
    rintro e w3 ⟨rfl, hos, hks⟩
    have hOc : ∀ g, Oc = some g → w0.heap.size ≤ g := by
      intro g hg
      rcases hnc with rfl | ⟨g', rfl, hg2⟩
      · cases hg
      · cases hg; simpa using hg2
    have hOD2 : ¬ (some D = Oc) := fun h => by have := hOc D h.symm; omega
    have hks0 : Kept NoM (putB w0 D _ 77) w3 := hkc.trans' hks (fun i hi h => by have := hOc i h.symm; simp at hi; omega)
    have hkz3 := Nat.lt_of_lt_of_le zD (Nat.le_trans (Nat.le_of_eq (putB_size _ _ _ _).symm) hks0.size)
    obtain ⟨w4, e4, z4⟩ : ∃ w4, w3 = putB w4 D _ 77 ∧ D < w4.heap.size := ⟨w3, putB_self (hks0.blk (putB_blk _ _ _ _ zD) (fun x => x)), hkz3⟩
    subst e4
    have hrs : RdInts _ NoM _ (sortF r.mat) := hos.rd (fun _ _ x => x)
    rw [← sortF_len r.mat] at hrs
    obtain ⟨sb, soff, rfl, _, zsb, csb⟩ := hrs.at HM.out
    have zc : (0 : Int) ≤ (r.count - 1) / 2 := by omega
    have zl : (r.count - 1) / 2 < (r.mat.length : Int) := by have := HK.out; omega
    have k4 : Kept (fun k => k = D) w0 w4 := (((Kept.refl (fun k => k = D) w0).putM (b := D) rfl _ 77).trans hks0.of_no).onB' (b := D) rfl
    have k5 : Kept (ND D O) w0 w4 := k4.mono (fun _ _ h => .inl h)
    have r4 : ∀ c n, RdS ((putB w4 D c 77).drewN n) (ND D O) 2 EItem (.slice sa1 nn sc1) (r.log.take nn) := fun c n => hrd1.kept ((k5.putM (b := D) (.inl rfl) _ _).drewN n) (fun _ _ h => h)
    have p1 : (nn : Int) ≤ r.log.length := hmb.2
    by_cases hcn : r.conf < (nn : Int)
    · go_wp2_with fail
      go_quiet ((go_at_call 41; exact quiet_eq (last_ok _ (r.log.take nn) (ND D O) _ (r4 _ _) hbl3)))
      by_cases hle : lastF (r.log.take nn) = r.epoch
      · have hb2 : (lastF (r.log.take nn) == r.epoch) = true := by rw [beq_iff_eq]; exact hle
        have hF2 : settleF r = { r with conf := nn } := by rw [HF.out, if_pos ⟨hcn, hle⟩]
        have HF2 := Lib.hid hF2
        clear hle hF2
        go_wp2
        go_end0
        exact ⟨rfl, by rw [HF2.out]; exact DStep.mk0 (r := { r with conf := nn }) zD hOD ((k4.putM (b := D) rfl _ _).drewN _) (blk_drewN (putB_blk _ _ _ _ z4) _) qlv qvv qmv qown⟩
      · have hb2 : (lastF (r.log.take nn) == r.epoch) = false := by rw [beq_eq_false_iff_ne]; exact hle
        have hF2 : settleF r = r := by rw [HF.out, if_neg (fun h => hle h.2)]
        have HF2 := Lib.hid hF2
        clear hle hF2
        go_wp2
        go_end0
        exact ⟨rfl, by rw [HF2.out]; exact DStep.mk0 zD hOD ((k4.putM (b := D) rfl _ _).drewN _) (blk_drewN (putB_blk _ _ _ _ z4) _) qlv qvv qmv qown⟩
    · have hcd : decide (r.conf < (nn : Int)) = false := by simpa using hcn
      have hF2 : settleF r = r := by rw [HF.out, if_neg (fun h => hcn h.1)]
      have HF2 := Lib.hid hF2
      clear hF2
      go_wp2_with fail
      go_quiet (fail)
      go_wp2
      go_end0
      exact ⟨rfl, by rw [HF2.out]; exact DStep.mk0 zD hOD ((k4.putM (b := D) rfl _ _).drewN _) (blk_drewN (putB_blk _ _ _ _ z4) _) qlv qvv qmv qown⟩
end Go.Proofs.YtgohploghbimlaaDoor

/- Walk: lead. -/
namespace Go.Proofs.YtgohploghbimlaaDoor
open Go.RowKit
set_option maxHeartbeats 1000000
variable [A : Inhabited (Nat → Prop)]
theorem settleF_keeps (r : Rep) : (settleF r).id = r.id ∧ (settleF r).count = r.count ∧ (settleF r).log = r.log ∧ (settleF r).mat = r.mat ∧ (settleF r).epoch = r.epoch ∧ (settleF r).role = r.role ∧ (settleF r).votes = r.votes ∧ (settleF r).voted = r.voted := by
  unfold settleF
  by_cases h : r.count = 1
  · rw [if_pos h]; exact ⟨rfl, rfl, rfl, rfl, rfl, rfl, rfl, rfl⟩
  · rw [if_neg h]
    dsimp only
    split <;> exact ⟨rfl, rfl, rfl, rfl, rfl, rfl, rfl, rfl⟩
theorem Deed.c01 {w : World} {D : Nat} {O : Option Nat} {r : Rep} {ls : List Let} (h : Deed w D O r ls) : w.cell? ⟨D, 0, none⟩ = some (.int .i64 r.id) ∧ w.cell? ⟨D, 1, none⟩ = some (.int .i64 r.count) := by
  obtain ⟨lv, vv, mv, tv, h1, _⟩ := h
  exact ⟨cell_blk h1 0 _ rfl, cell_blk h1 1 _ rfl⟩
theorem othersF_mem {n : Nat} {id k : Int} (h : k ∈ othersF n id) : 0 ≤ k ∧ k < n := by
  unfold othersF at h
  simp only [List.mem_filter, List.mem_map, List.mem_range] at h
  obtain ⟨⟨a, ha, rfl⟩, _⟩ := h
  omega

theorem DStep.behind {D : Nat} {O O1 : Option Nat} {w w1 w2 : World} {r2 : Rep} {ls2 : List Let} (hk : Kept (MD D O) w w1) (hn : NewO w O O1) (h : DStep D O1 w1 r2 ls2 w2) : DStep D O w r2 ls2 w2 :=
  DStep.trans (r := r2) (ls := ls2) hk hn h
theorem set_bound {l : List Int} {n j : Nat} {x b : Int} (hl : l = (List.replicate n 0).set j x) (hx : 0 ≤ x ∧ x ≤ b) (hb : 0 ≤ b) : ∀ y ∈ l, 0 ≤ y ∧ y ≤ b := by
  intro y hy
  subst hl
  rcases List.mem_or_eq_of_mem_set hy with h | h
  · have := (List.mem_replicate.1 h).2; omega
  · omega

theorem lead_ok (D : Nat) (O : Option Nat) (r : Rep) (ls : List Let) (w : World) (hd : Deed w D O r ls) (hc1 : 1 ≤ r.count) (hc2 : r.count ≤ 1000) (hi0 : 0 ≤ r.id) (hi1 : r.id < r.count) (hll : r.log.length ≤ 10000) (hsl : ls.length ≤ 90000) :
    Calls Tryd.prog 39 #[.pointer (some ⟨D, 0, none⟩)] w fun e w' => e = .returned (.tuple #[]) ∧ DStep D O w (leadF r).1 (ls ++ (leadF r).2) w' := by
  obtain ⟨id, count, epoch, voted, role, log, conf, votes, mat⟩ := r
  simp only at hc1 hc2 hi0 hi1 hll
  obtain ⟨lv, vv, mv, tv, hD, hlv, hvv, hmv, hown, hOD⟩ := hd
  obtain ⟨la, lcap, rfl, hlc, hlm⟩ := hlv.shape
  have hDs := lt_of_block hD
  obtain ⟨w0, e0, qlv, qown, zD⟩ : ∃ w0, w = putB w0 D _ 77 ∧ RdItems w0 (ND D O) _ log ∧ OwnS w0 O 57 9 (ELet w0 (ND D O)) _ ls ∧ D < w0.heap.size :=
    ⟨w, putB_self hD, hlv, hown, hDs⟩
  subst e0
  clear hlv hvv hmv hown hDs hD
  obtain ⟨n, rfl⟩ := Int.eq_ofNat_of_zero_le (show 0 ≤ count by omega)
  obtain ⟨j, rfl⟩ := Int.eq_ofNat_of_zero_le hi0
  have hmk := fun wx => make_fact tyInts (.int .i64 0) (by kernel_rfl) rfl n (by omega) (by omega) wx
  obtain ⟨Z, hZ⟩ : ∃ Z : Array Value, Z = (List.replicate n (.int .i64 0)).toArray := ⟨_, rfl⟩
  rw [← hZ] at hmk
  have hZj : Z[j]? = some (.int .i64 0) := by
    have hjn : j < n := by omega
    rw [hZ]; simp only [List.getElem?_toArray, List.getElem?_replicate]; rw [if_pos hjn]
  have j0 : (0 : Int) ≤ j := by omega
  have hZs : Z.setIfInBounds j (.int .i64 (log.length : Int)) = (((List.replicate n 0).set j (log.length : Int)).map (Value.int .i64)).toArray := by
    rw [hZ, ← set_list]; simp
  have HZS := Lib.hid hZs
  clear hZ hZs
  obtain ⟨m1, hm1⟩ : ∃ m1 : List Int, m1 = (List.replicate n 0).set j (log.length : Int) := ⟨_, rfl⟩
  have hb1 := set_bound hm1 (b := log.length) ⟨by omega, by omega⟩ (by omega)
  have hl1 : m1.length = n := by rw [hm1]; simp
  have HM1 := Lib.hid hm1
  have HL1 := Lib.hid hl1
  clear hm1 hl1
  have hlead : leadF ⟨j, n, epoch, voted, role, log, conf, votes, mat⟩ = (settleF ⟨j, n, epoch, voted, 3, log, conf, [], m1⟩, (othersF n j).map (logLet (settleF ⟨j, n, epoch, voted, 3, log, conf, [], m1⟩))) := by
    unfold leadF; rw [HM1.out]; rfl
  have HLD := Lib.hid hlead
  clear hlead
  have sk := settleF_keeps ⟨j, n, epoch, voted, 3, log, conf, [], m1⟩
  simp only at sk
  have SK := Lib.hid sk
  clear sk
  go_enter Tryd.func39, Tryd.ntmps39
  go_wp2_with fail
  go_region
  go_wp2_with fail
  go_region
  go_wp2_with fail
  have K1 : ∀ c o, Kept (fun k => k = D) w0 (((putB w0 D c 77).alloc o).drew.drew) := fun c o => ((((Kept.refl (fun k => k = D) w0).putM (b := D) rfl _ _).alloc _).drew).drew
  have K1' : ∀ c o, Kept (MD D O) w0 (((putB w0 D c 77).alloc o).drew.drew) := fun c o => (K1 c o).mono (fun _ _ h => .inl h)
  have bN : ∀ c, (((putB w0 D c 77).alloc (.cells (m1.map (Value.int .i64)).toArray 3)).drew.drew).heap[w0.heap.size]? = some (.cells (m1.map (Value.int .i64)).toArray 3 (0, 0)) := fun c => blk_drew (blk_drew (blk_new' _ _ _ (putB_size _ _ _ _).symm))
  rw [HZS.out, ← HM1.out]
  refine (settle_ok D O ⟨j, n, epoch, voted, 3, log, conf, [], m1⟩ ls _ ?_ ?_ ?_ ?_ ?_ ?_).mono ?_
  · refine ⟨_, _, _, _, blk_drew (blk_drew (blk_old (putB_blk _ _ _ _ zD) _)), qlv.kept (K1' _ _).nd, RdBools.nil _ _, ?_, qown.kept (K1 _ _) (fun g hg h => hOD (by rw [hg, h])) (fun _ _ h => h.kept (K1' _ _).nd), hOD⟩
    refine rd_list (fun x => rfl) (bN _) n HL1.out (by unfold maxLen; omega) ?_
    rintro (h | h | h)
    · omega
    · have := qown.lt _ h.symm; omega
    · omega
  · exact congrArg Int.ofNat HL1.out
  · exact hc1
  · exact hc2
  · exact hb1
  · exact hll
  rintro e w1 ⟨rfl, O1, hd1, k1, n1⟩
  have c01 := hd1.c01
  rw [SK.out.1, SK.out.2.1] at c01
  go_wp2_with fail
  refine (others_ok D j n (by omega) hc2 _ c01.1 c01.2).mono ?_
  rintro e w2 ⟨v, Ox, rfl, own2, new2, k2⟩
  simp only [Int.toNat_natCast] at own2
  go_wp2_with fail
  refine (log_ok D O1 _ ls _ (hd1.kept0 k2) v (othersF n j) (own2.rdNew new2 hd1.out) ?_ ?_ ?_ ?_ hsl).mono ?_
  · intro k hk
    rw [SK.out.2.2.2.1, HL1.out]
    exact othersF_mem hk
  · rw [SK.out.2.2.2.1, SK.out.2.2.1]; exact hb1
  · rw [SK.out.2.2.1]; exact hll
  · have := othersF_len n j; omega
  rintro e w3 ⟨rfl, hst⟩
  go_wp2
  go_end0
  refine ⟨rfl, ?_⟩
  rw [HLD.out]
  exact DStep.behind (((((K1' _ _).offB (.inl rfl)).trans k1).transN k2)) (n1.of_le (by simp)) hst
end Go.Proofs.YtgohploghbimlaaDoor

/- Walk: Timeout. -/
namespace Go.Proofs.YtgohploghbimlaaDoor
open Go.RowKit
set_option maxHeartbeats 1000000
variable [A : Inhabited (Nat → Prop)]

/-- what a handler hands back: a replica and letters -/
def Hands (w : World) (r : Rep) (ls : List Let) (e : Ending) (w' : World) : Prop :=
  ∃ lv vv mv tv, e = .returned (.tuple #[.agg #[.int .i64 r.id, .int .i64 r.count, .int .i64 r.epoch, .int .i64 r.voted, .int .i64 r.role, lv, .int .i64 r.conf, vv, mv], tv]) ∧
    RdItems w' (fun k => k < w.heap.size ∧ Away k) lv r.log ∧ RdBools w' (fun k => k < w.heap.size ∧ Away k) vv r.votes ∧ RdInts w' (fun k => k < w.heap.size ∧ Away k) mv r.mat ∧ RdLets w' (fun k => k < w.heap.size ∧ Away k) tv ls ∧ Kept NoM w w'

theorem hands_mk {w W3 W5 : World} {D : Nat} {O3 : Option Nat} {r : Rep} {ls : List Let} {lv vv mv tv : Value} {e : Ending}
    (q1 : RdItems W3 (ND D O3) lv r.log) (q2 : RdBools W3 (ND D O3) vv r.votes) (q3 : RdInts W3 (ND D O3) mv r.mat) (q4 : OwnS W3 O3 57 9 (ELet W3 (ND D O3)) tv ls) (hO : ∀ g, O3 = some g → D < g) (hwD : w.heap.size + 2 = D)
    (K : Kept (fun k => k = D ∨ k + 1 = D) W3 W5) (KN : Kept NoM w W5)
    (he : e = .returned (.tuple #[.agg #[.int .i64 r.id, .int .i64 r.count, .int .i64 r.epoch, .int .i64 r.voted, .int .i64 r.role, lv, .int .i64 r.conf, vv, mv], tv])) : Hands w r ls e W5 := by
  have K2 : Kept (ND D O3) W3 W5 := K.mono (fun i _ h => h.elim .inl (fun h => .inr (.inr ⟨by omega, .inl h⟩)))
  have hN : ∀ i, (i < w.heap.size ∧ Away i) → ND D O3 i := fun i x => .inr (.inr ⟨by omega, .inr x.2⟩)
  refine ⟨lv, vv, mv, tv, he, (q1.kept K2).mono (fun i _ x => hN i x), (q2.kept K2).mono (fun i _ x => hN i x), (q3.kept K2).mono (fun i _ x => hN i x), ?_, KN⟩
  have h1 : RdS W3 (fun k => k ≤ D) 9 (ELet W3 (ND D O3)) tv ls := q4.rd (fun g hg h => by have := hO g hg; have h : g ≤ D := h; omega)
  exact RdS.mono (RdS.kept h1 (K.mono (fun i _ h => by
    show i ≤ D
    rcases h with h | h <;> omega)) (fun _ _ x => x)) (fun i _ x => by have := x.1; show i ≤ D; omega) (by omega) (fun _ _ x => (x.kept K2).mono (fun i _ y => hN i y))

theorem kept_two {w4 : World} {D B : Nat} (hB : B + 1 = D) {a1 a2 c1 c2 : Array Value} {t1 t2 u1 u2 : TypeId} :
    Kept (fun k => k = D ∨ k + 1 = D) (putB (putB w4 B a1 t1) D a2 t2) ((putB (putB w4 B c1 u1) D c2 u2).drew) :=
  Kept.offB (Kept.offB ((((Kept.refl _ w4).putM (b := B) (.inr hB) c1 u1).putM (b := D) (.inl rfl) c2 u2).drew) (.inr hB)) (.inl rfl)
theorem expose2 {w : World} {b1 b2 : Nat} {c1 c2 : Array Value} {e1 e2 : TypeId} (h1 : w.heap[b1]? = some (.cells c1 e1 (0, 0))) (h2 : w.heap[b2]? = some (.cells c2 e2 (0, 0))) : w = putB (putB w b1 c1 e1) b2 c2 e2 := by
  rw [← putB_self h1]; exact putB_self h2

/-- a new deed for a replica -/
theorem deed_new {w : World} {r : Rep} {lv vv mv : Value} {R Z : Obj} (hlv : RdItems w Away lv r.log) (hvv : RdBools w Away vv r.votes) (hmv : RdInts w Away mv r.mat) :
    Deed (((w.alloc R).alloc Z).alloc (.cells #[.int .i64 r.id, .int .i64 r.count, .int .i64 r.epoch, .int .i64 r.voted, .int .i64 r.role, lv, .int .i64 r.conf, vv, mv, .slice none 0 0] 77)) (w.heap.size + 2) none r [] := by
  have K := ((((Kept.refl NoM w).alloc R).alloc Z).alloc (.cells #[.int .i64 r.id, .int .i64 r.count, .int .i64 r.epoch, .int .i64 r.voted, .int .i64 r.role, lv, .int .i64 r.conf, vv, mv, .slice none 0 0] 77))
  have hs : ∀ i, i < w.heap.size → ND (w.heap.size + 2) none i → Away i := by
    rintro i hi (h | h | h)
    · omega
    · cases h
    · rcases h.2 with h | h
      · omega
      · exact h
  exact ⟨lv, vv, mv, _, blk_new' _ _ _ (by simp), hlv.step K.of_no hs, hvv.step K.of_no hs, hmv.step K.of_no hs, OwnS.nil _ _ _ _, by simp⟩

theorem timeout_lead (r : Rep) (lv vv mv : Value) (w : World) (hlv : RdItems w Away lv r.log) (hvv : RdBools w Away vv r.votes) (hmv : RdInts w Away mv r.mat) (hr : Valid r) (h3 : r.role = 3) :
    Calls Tryd.prog 21 #[.agg #[.int .i64 r.id, .int .i64 r.count, .int .i64 r.epoch, .int .i64 r.voted, .int .i64 r.role, lv, .int .i64 r.conf, vv, mv]] w (Hands w (timeoutF r).1 (timeoutF r).2) := by
  have hb3 : (r.role == 3) = true := by rw [beq_iff_eq]; exact h3
  have hF : timeoutF r = (r, (othersF r.count.toNat r.id).map (logLet r)) := by unfold timeoutF; rw [if_pos h3]
  have hm := hr.mat
  rw [if_pos h3] at hm
  have HF := Lib.hid hF
  have HM := Lib.hid hm
  have HR := Lib.hid hr
  have c1 := hr.count1
  have c7 := hr.count7
  clear hF hm hr h3
  have d0 := deed_new (R := .cells #[.int .i64 r.id, .int .i64 r.count, .int .i64 r.epoch, .int .i64 r.voted, .int .i64 r.role, lv, .int .i64 r.conf, vv, mv] 32) (Z := .cells #[.int .i64 0, .int .i64 0, .int .i64 0, .int .i64 0, .int .i64 0, .slice none 0 0, .int .i64 0, .slice none 0 0, .slice none 0 0] 32) hlv hvv hmv
  have c01 := d0.c01
  obtain ⟨la, lcap, rfl, _, _⟩ := hlv.shape
  obtain ⟨va, vcap, rfl, _, _⟩ := hvv.shape
  obtain ⟨ma, mcap, rfl, _, _⟩ := hmv.shape
  have D0 := Lib.hid d0
  have C0 := Lib.hid c01
  clear d0 c01
  go_enter Tryd.func21, Tryd.ntmps21
  go_wp2_with fail
  refine (others_ok _ r.id r.count (by omega) (by omega) _ C0.out.1 C0.out.2).mono ?_
  rintro e w2 ⟨v, Ox, rfl, own2, new2, k2⟩
  go_wp2_with fail
  refine (log_ok _ _ r [] _ (D0.out.kept0 k2) v (othersF r.count.toNat r.id) (own2.rdNew new2 D0.out.out) ?_ ?_ ?_ ?_ (by simp)).mono ?_
  · intro k hk
    have := othersF_mem hk
    have := HM.out
    omega
  · exact HR.out.match_
  · have := HR.out.len; omega
  · have := othersF_len r.count.toNat r.id; omega
  obtain ⟨ls3, hls3⟩ : ∃ ls3, ls3 = (othersF r.count.toNat r.id).map (logLet r) := ⟨_, rfl⟩
  rw [List.nil_append, ← hls3]
  rw [← hls3] at HF
  clear hls3
  rintro e w3 ⟨rfl, O3, ⟨lv3, vv3, mv3, tv3, hb3', q1, q2, q3, q4, q5⟩, k3, n3⟩
  have hz3 := k3.size
  have hz2 := k2.size
  simp at hz2 hz3
  have KW3 : Kept NoM w w3 := (((((Kept.refl NoM w).alloc _).alloc _).alloc _).trans k2).trans' k3 (fun i hi h => by
    rcases h with h | h
    · omega
    · cases h)
  have bZ := (k2.blk (k := w.heap.size + 1) (blk_old (blk_new' _ _ _ (by simp)) _) (fun x => x))
  have bZ3 := k3.blk bZ (by
    rintro (h | h)
    · omega
    · cases h)
  obtain ⟨w4, e4, z4⟩ : ∃ w4, w3 = putB (putB w4 (w.heap.size + 1) _ 32) (w.heap.size + 2) _ 77 ∧ w.heap.size + 3 ≤ w4.heap.size := ⟨w3, expose2 bZ3 hb3', by omega⟩
  obtain ⟨la3, lcap3, rfl, _, _⟩ := q1.shape
  obtain ⟨va3, vcap3, rfl, _, _⟩ := q2.shape
  obtain ⟨ma3, mcap3, rfl, _, _⟩ := q3.shape
  obtain ⟨ta3, tcap3, rfl, _⟩ := q4.shape
  subst e4
  have y1 : w.heap.size + 1 < w4.heap.size := by omega
  have y2 : w.heap.size + 2 < w4.heap.size := by omega
  go_wp2_with fail
  go_region
  all_goals go_wp2
  refine bodyPost_ret (v := .tuple #[.agg #[.int .i64 r.id, .int .i64 r.count, .int .i64 r.epoch, .int .i64 r.voted, .int .i64 r.role, .slice la3 r.log.length lcap3, .int .i64 r.conf, .slice va3 r.votes.length vcap3, .slice ma3 r.mat.length mcap3], .slice ta3 ls3.length tcap3]) (by simp [results, Tryd.results21, go_sem, y1, y2]) rfl ?_
  rw [HF.out]
  have hO3 : ∀ g, O3 = some g → w.heap.size + 2 < g := by
    intro g hg
    rcases n3 with rfl | ⟨g', rfl, hg2⟩
    · cases hg
    · cases hg; omega
  exact hands_mk (D := w.heap.size + 2) q1 q2 q3 q4 (fun g hg => by have := hO3 g hg; omega) rfl (kept_two (by omega)) (KW3.trans' (kept_two (D := w.heap.size + 2) (by omega)) (fun i hi h => by rcases h with h | h <;> omega)) rfl
end Go.Proofs.YtgohploghbimlaaDoor
