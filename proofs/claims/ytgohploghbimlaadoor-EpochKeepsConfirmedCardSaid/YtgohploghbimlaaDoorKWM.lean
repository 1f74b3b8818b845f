/- Walk: Timeout, the other ways. -/
import Derived.Test.YtgohploghbimlaaDoorKWJ
set_option linter.unusedVariables false
set_option linter.unusedSimpArgs false
set_option linter.unusedSectionVars false
namespace Go.Proofs.YtgohploghbimlaaDoor
open Go.RowKit
set_option maxHeartbeats 1000000
variable [A : Inhabited (Nat → Prop)]
theorem timeout_old (r : Rep) (lv vv mv : Value) (w : World) (hlv : RdItems w Away lv r.log) (hvv : RdBools w Away vv r.votes) (hmv : RdInts w Away mv r.mat) (h3 : r.role ≠ 3) (he : r.epoch ≥ 1073741824) :
    Calls Tryd.prog 21 #[.agg #[.int .i64 r.id, .int .i64 r.count, .int .i64 r.epoch, .int .i64 r.voted, .int .i64 r.role, lv, .int .i64 r.conf, vv, mv]] w (Hands w (timeoutF r).1 (timeoutF r).2) := by
  have hb3 : (r.role == 3) = false := by rw [beq_eq_false_iff_ne]; exact h3
  have hF : timeoutF r = (r, []) := by unfold timeoutF; rw [if_neg h3, if_pos he]
  have HF := Lib.hid hF
  clear hF h3
  obtain ⟨la, lcap, rfl, _, _⟩ := hlv.shape
  obtain ⟨va, vcap, rfl, _, _⟩ := hvv.shape
  obtain ⟨ma, mcap, rfl, _, _⟩ := hmv.shape
  have K : ∀ a b c, Kept NoM w (((w.alloc a).alloc b).alloc c) := fun a b c => (((Kept.refl NoM w).alloc a).alloc b).alloc c
  go_enter Tryd.func21, Tryd.ntmps21
  go_wp2
  refine bodyPost_ret (v := .tuple #[.agg #[.int .i64 r.id, .int .i64 r.count, .int .i64 r.epoch, .int .i64 r.voted, .int .i64 r.role, .slice la r.log.length lcap, .int .i64 r.conf, .slice va r.votes.length vcap, .slice ma r.mat.length mcap], .slice none 0 0]) (by simp [results, Tryd.results21, go_sem]) rfl ?_
  rw [HF.out]
  exact ⟨_, _, _, _, rfl, hlv.step (K _ _ _).of_no (fun _ _ x => x.2), hvv.step (K _ _ _).of_no (fun _ _ x => x.2), hmv.step (K _ _ _).of_no (fun _ _ x => x.2), RdLets.nil _ _, K _ _ _⟩

theorem deed_cand {w : World} {id count epoch role : Int} {log : List Item} {conf : Int} {vs : List Bool} {mat : List Int} {n : Nat} {lv mv : Value} {R Z : Obj} (hlv : RdItems w Away lv log) (hmv : RdInts w Away mv mat) (hn : vs.length = n) (hm : n ≤ 1000) :
    Deed ((((((w.alloc R).alloc Z).alloc (.cells #[.int .i64 id, .int .i64 count, .int .i64 epoch, .int .i64 id, .int .i64 role, lv, .int .i64 conf, .slice (some ⟨w.heap.size + 3, 0, none⟩) n n, mv, .slice none 0 0] 77)).alloc (.cells (vs.map Value.bool).toArray 4)).drew).drew) (w.heap.size + 2) none ⟨id, count, epoch, id, role, log, conf, vs, mat⟩ [] ∧ Kept NoM w ((((((w.alloc R).alloc Z).alloc (.cells #[.int .i64 id, .int .i64 count, .int .i64 epoch, .int .i64 id, .int .i64 role, lv, .int .i64 conf, .slice (some ⟨w.heap.size + 3, 0, none⟩) n n, mv, .slice none 0 0] 77)).alloc (.cells (vs.map Value.bool).toArray 4)).drew).drew) ∧ w.heap.size + 4 ≤ ((((((w.alloc R).alloc Z).alloc (.cells #[.int .i64 id, .int .i64 count, .int .i64 epoch, .int .i64 id, .int .i64 role, lv, .int .i64 conf, .slice (some ⟨w.heap.size + 3, 0, none⟩) n n, mv, .slice none 0 0] 77)).alloc (.cells (vs.map Value.bool).toArray 4)).drew).drew).heap.size ∧ ((((((w.alloc R).alloc Z).alloc (.cells #[.int .i64 id, .int .i64 count, .int .i64 epoch, .int .i64 id, .int .i64 role, lv, .int .i64 conf, .slice (some ⟨w.heap.size + 3, 0, none⟩) n n, mv, .slice none 0 0] 77)).alloc (.cells (vs.map Value.bool).toArray 4)).drew).drew).heap[w.heap.size + 1]? = some Z := by
  have K := ((((((Kept.refl NoM w).alloc R).alloc Z).alloc (.cells #[.int .i64 id, .int .i64 count, .int .i64 epoch, .int .i64 id, .int .i64 role, lv, .int .i64 conf, .slice (some ⟨w.heap.size + 3, 0, none⟩) n n, mv, .slice none 0 0] 77)).alloc (.cells (vs.map Value.bool).toArray 4)).drew).drew
  have hs : ∀ i, i < w.heap.size → ND (w.heap.size + 2) none i → Away i := by
    rintro i hi (h | h | h)
    · omega
    · cases h
    · rcases h.2 with h | h
      · omega
      · exact h
  refine ⟨?_, K, by simp, blk_drew (blk_drew (blk_old (blk_old (blk_new' _ _ _ (by simp)) _) _))⟩
  refine ⟨lv, _, mv, _, blk_drew (blk_drew (blk_old (blk_new' _ _ _ (by simp)) _)), hlv.step K.of_no hs, ?_, hmv.step K.of_no hs, OwnS.nil _ _ _ _, by simp⟩
  refine rd_list (fun x => rfl) (blk_drew (blk_drew (blk_new' _ _ _ (by simp)))) n hn (by unfold maxLen; omega) ?_
  rintro (h | h | h)
  · omega
  · cases h
  · omega

/-- the end that all ways share: the deed's replica and letters are handed back -/
theorem timeout_cand (r : Rep) (lv vv mv : Value) (w : World) (hlv : RdItems w Away lv r.log) (hvv : RdBools w Away vv r.votes) (hmv : RdInts w Away mv r.mat) (hr : Valid r) (h3 : r.role ≠ 3) (he : ¬ r.epoch ≥ 1073741824) :
    Calls Tryd.prog 21 #[.agg #[.int .i64 r.id, .int .i64 r.count, .int .i64 r.epoch, .int .i64 r.voted, .int .i64 r.role, lv, .int .i64 r.conf, vv, mv]] w (Hands w (timeoutF r).1 (timeoutF r).2) := by
  obtain ⟨n, hn⟩ := Int.eq_ofNat_of_zero_le (show 0 ≤ r.count by have := hr.count1; omega)
  obtain ⟨j, hj⟩ := Int.eq_ofNat_of_zero_le hr.id0
  have c1 := hr.count1
  have c7 := hr.count7
  have i1 := hr.id1
  have he0 := hr.ep0
  have hll := hr.len
  obtain ⟨id, count, epoch, voted, role, log, conf, votes, mat⟩ := r
  simp only at *
  subst hn; subst hj
  have hb3 : (role == 3) = false := by rw [beq_eq_false_iff_ne]; exact h3
  obtain ⟨vs, hvs⟩ : ∃ vs : List Bool, vs = (List.replicate n false).set j true := ⟨_, rfl⟩
  have hvl : vs.length = n := by rw [hvs]; simp
  obtain ⟨r1, hr1⟩ : ∃ r1 : Rep, r1 = ⟨j, n, epoch + 1, j, 2, log, conf, vs, mat⟩ := ⟨_, rfl⟩
  have hF : timeoutF ⟨j, n, epoch, voted, role, log, conf, votes, mat⟩ = if 2 * 1 > (n : Int) then leadF r1 else (r1, (othersF n j).map fun k => { kind := 1, src := j, dst := k, ep := epoch + 1, pos := log.length, aep := lastF log, items := [], conf := 0, yes := false }) := by
    unfold timeoutF; rw [if_neg h3, if_neg he, hr1, hvs]; rfl
  have HF := Lib.hid hF
  have HR := Lib.hid hr
  clear hF h3 hr
  obtain ⟨la, lcap, rfl, _, _⟩ := hlv.shape
  obtain ⟨va, vcap, rfl, _, _⟩ := hvv.shape
  obtain ⟨ma, mcap, rfl, _, _⟩ := hmv.shape
  have hmk := fun wx => make_fact tyBools (.bool false) (by kernel_rfl) rfl n (by omega) (by omega) wx
  obtain ⟨Z, hZ⟩ : ∃ Z : Array Value, Z = (List.replicate n (.bool false)).toArray := ⟨_, rfl⟩
  rw [← hZ] at hmk
  have hZj : Z[j]? = some (.bool false) := by
    have hjn : j < n := by omega
    rw [hZ]; simp only [List.getElem?_toArray, List.getElem?_replicate]; rw [if_pos hjn]
  have j0 : (0 : Int) ≤ j := by omega
  have hZs : Z.setIfInBounds j (.bool true) = (vs.map Value.bool).toArray := by
    rw [hZ, hvs, ← set_list]; simp
  have HZS := Lib.hid hZs
  have HVL := Lib.hid hvl
  have HR1 := Lib.hid hr1
  clear hZs hvl hr1 hZ hvs
  go_enter Tryd.func21, Tryd.ntmps21
  go_wp2_with fail
  go_region
  go_wp2_with fail
  go_region
  go_wp2_with fail
  rw [HZS.out]
  obtain ⟨d1, KW, hzW, bZ⟩ := deed_cand (R := .cells #[.int .i64 j, .int .i64 n, .int .i64 epoch, .int .i64 voted, .int .i64 role, .slice la log.length lcap, .int .i64 conf, .slice va votes.length vcap, .slice ma mat.length mcap] 32) (Z := .cells #[.int .i64 0, .int .i64 0, .int .i64 0, .int .i64 0, .int .i64 0, .slice none 0 0, .int .i64 0, .slice none 0 0, .slice none 0 0] 32) (id := j) (count := n) (epoch := epoch + 1) (role := 2) (conf := conf) (vs := vs) (n := n) hlv hmv HVL.out (by omega)
  refine (wins_ok _ 1 n (by omega) (by omega) _ d1.c01.2).mono ?_
  rintro e w1 ⟨rfl, rfl⟩
  by_cases h1 : n = 1
  · have h2 : ((n : Int) < 2) := by omega
    obtain ⟨p, hp⟩ : ∃ p, p = leadF r1 := ⟨_, rfl⟩
    have hF2 : timeoutF ⟨j, n, epoch, voted, role, log, conf, votes, mat⟩ = p := by rw [HF.out, if_pos (by omega), hp]
    obtain ⟨r3, ls3⟩ := p
    have hl := lead_ok _ none r1 [] _ (by rw [HR1.out]; exact d1) (by rw [HR1.out]; exact c1) (by rw [HR1.out]; dsimp only; omega) (by rw [HR1.out]; exact j0) (by rw [HR1.out]; exact i1) (by rw [HR1.out]; dsimp only; omega) (by simp)
    rw [← hp, List.nil_append] at hl
    clear hp HF
    have HF := Lib.hid hF2
    have HLC := Lib.hid hl
    clear hF2 hl
    clear h1
    go_wp2_with fail
    refine HLC.out.mono ?_
    rintro e w3 ⟨rfl, O3, ⟨lv3, vv3, mv3, tv3, hb3', q1, q2, q3, q4, q5⟩, k3, n3⟩
    have hz3 := k3.size
    have KW3 : Kept NoM w w3 := KW.trans' k3 (fun i hi h => by
      rcases h with h | h
      · omega
      · cases h)
    have bZ3 := k3.blk bZ (by
      rintro (h | h)
      · omega
      · cases h)
    obtain ⟨w4, e4, z4⟩ : ∃ w4, w3 = putB (putB w4 (w.heap.size + 1) _ 32) (w.heap.size + 2) _ 77 ∧ w.heap.size + 3 ≤ w4.heap.size := ⟨w3, expose2 bZ3 hb3', by omega⟩
    obtain ⟨la3, lcap3, rfl, _, _⟩ := q1.shape
    obtain ⟨va3, vcap3, rfl, _, _⟩ := q2.shape
    obtain ⟨ma3, mcap3, rfl, _, _⟩ := q3.shape
    obtain ⟨ta3, tcap3, rfl, _⟩ := q4.shape
    subst e4
    have y1 : w.heap.size + 1 < w4.heap.size := by omega
    have y2 : w.heap.size + 2 < w4.heap.size := by omega
    have hO3 : ∀ g, O3 = some g → w.heap.size + 2 < g := by
      intro g hg
      rcases n3 with rfl | ⟨g', rfl, hg2⟩
      · cases hg
      · cases hg; omega
    go_wp2_with fail
    go_region
    all_goals go_wp2
    refine bodyPost_ret (v := .tuple #[.agg #[.int .i64 r3.id, .int .i64 r3.count, .int .i64 r3.epoch, .int .i64 r3.voted, .int .i64 r3.role, .slice la3 r3.log.length lcap3, .int .i64 r3.conf, .slice va3 r3.votes.length vcap3, .slice ma3 r3.mat.length mcap3], .slice ta3 ls3.length tcap3]) (by simp [results, Tryd.results21, go_sem, y1, y2]) rfl ?_
    rw [HF.out]
    exact hands_mk (D := w.heap.size + 2) q1 q2 q3 q4 (fun g hg => by have := hO3 g hg; omega) rfl (kept_two (by omega)) (KW3.trans' (kept_two (D := w.heap.size + 2) (by omega)) (fun i hi h => by rcases h with h | h <;> omega)) rfl
  · have h2 : ¬ ((n : Int) < 2) := by omega
    have h2' : decide ((n : Int) < 2) = false := by simpa using h2
    obtain ⟨ks, hks⟩ : ∃ ks, ks = othersF n j := ⟨_, rfl⟩
    have hkl : ks.length ≤ 1000 := by rw [hks]; have := othersF_len n j; omega
    obtain ⟨askL, hask⟩ : ∃ askL : Int → Let, askL = fun k => { kind := 1, src := j, dst := k, ep := epoch + 1, pos := log.length, aep := lastF log, items := [], conf := 0, yes := false } := ⟨_, rfl⟩
    have hF2 : timeoutF ⟨j, n, epoch, voted, role, log, conf, votes, mat⟩ = (r1, ks.map askL) := by rw [HF.out, if_neg (by omega), hks, hask]
    have hasx : ∀ x, askL x = { kind := 1, src := j, dst := x, ep := epoch + 1, pos := log.length, aep := lastF log, items := [], conf := 0, yes := false } := fun x => by rw [hask]
    have hot := others_ok _ j n (by omega) (by omega) _ d1.c01.1 d1.c01.2
    simp only [Int.toNat_natCast] at hot
    rw [← hks] at hot
    rw [← HR1.out] at d1
    have D1 := Lib.hid d1
    have HOT := Lib.hid hot
    clear HF hask hks hot h1 h2 d1
    have HF := Lib.hid hF2
    have HAS := Lib.hid hasx
    clear hF2 hasx
    go_wp2_with fail
    refine HOT.out.mono ?_
    rintro e w2 ⟨v, Ov, rfl, own2, new2, k2⟩
    clear HOT
    obtain ⟨ka, kcap, rfl, _, _, _⟩ := own2.shape
    have rd2 : RdInts w2 (ND (w.heap.size + 2) none) _ ks := own2.rdNew new2 D1.out.out
    have d2 := D1.out.kept0 k2
    have D2 := Lib.hid d2
    have KW2 := KW.trans k2
    have bZ2 := k2.blk bZ (fun x => x)
    have hzW2 : w.heap.size + 4 ≤ w2.heap.size := Nat.le_trans hzW k2.size
    clear d2 KW bZ hzW k2 D1 own2 new2
    have HB := Lib.hid bZ2
    clear bZ2
    go_wp2_with fail
    go_loopw [89] (fun i wr => ∃ k : Nat, k ≤ ks.length ∧ i = .int .i64 k ∧ ∃ Ox, Deed wr (w.heap.size + 2) Ox r1 ((ks.take k).map askL) ∧ Kept (MD (w.heap.size + 2) none) w2 wr ∧ NewO w2 none Ox) (fun i _ => ks.length - (intOf i).toNat)
    case atStart => exact ⟨0, Nat.zero_le _, rfl, none, by simpa using D2.out, Kept.refl _ _, NewO.refl _ _⟩
    case round =>
      obtain ⟨k, hk, rfl, Ox, hdr, hK, hN⟩ := hrel
      by_cases hlt : k < ks.length
      · obtain ⟨x, hx⟩ := get_at hlt
        have hxk : (ks.take (k + 1)) = ks.take k ++ [x] := by rw [List.take_add_one, hx]; rfl
        have HX := Lib.hid hxk
        have hbl3 : ((ks.take k).map askL).length ≤ 100000 := by simp; omega
        have dd := Lib.hid hdr
        rw [HR1.out] at hdr
        obtain ⟨lv, vv, mv, tv, hD, hlv, hvv, hmv, hown, hOD⟩ := hdr
        simp only at hD hlv
        obtain ⟨lb, lbcap, rfl, hlc, hlm⟩ := hlv.shape
        obtain ⟨kb, koff, e0, hkM, _, ck⟩ := (rd2.step hK.nd (ND.sub hN)).at hx
        subst e0
        have hkD : ¬ kb = w.heap.size + 2 := fun h => hkM (.inl h)
        have hDs := lt_of_block hD
        obtain ⟨w0, e0, qlv, qck, zD, zs, zK⟩ : ∃ w0, wr = putB w0 (w.heap.size + 2) _ 77 ∧ RdItems w0 (ND (w.heap.size + 2) Ox) _ log ∧ w0.cell? _ = some _ ∧ w.heap.size + 2 < w0.heap.size ∧ w2.heap.size ≤ w0.heap.size ∧ Kept (MD (w.heap.size + 2) none) w2 w0 :=
          ⟨wr, putB_self hD, hlv, ck, hDs, hK.size, hK⟩
        subst e0
        clear hlv hvv hmv hown hDs hD ck hx hxk hkM
        have s5 := cell_blk (putB_blk w0 (w.heap.size + 2) #[.int .i64 j, .int .i64 n, .int .i64 (epoch + 1), .int .i64 j, .int .i64 2, .slice lb log.length lbcap, .int .i64 conf, vv, mv, tv] 77 zD) 5 (.slice lb log.length lbcap) rfl
        have hbl1 : log.length ≤ 1000000000 := by omega
        go_wp2_with fail
        go_region_held3 (fun w' => w'.cell? ⟨w.heap.size + 2, 5, none⟩ = some (.slice lb log.length lbcap)) (first | go_keep | (simp [go_sem, zD]))
          (first | (go_at_call 41; refine (last_ok _ log (ND (w.heap.size + 2) Ox) _ (qlv.kept ((Kept.refl _ _).putM (.inl rfl) _ _).drew) hbl1).mono ?_; rintro e w' ⟨rfl, rfl⟩) | (go_at_call 40; refine (send_ok (w.heap.size + 2) Ox r1 _ _ (dd.out.kept0 ((Kept.refl NoM _).drew.alloc _)) ⟨1, 0, x, 0, log.length, lastF log, [], 0, false⟩ _ _ (blk_new' _ _ _ (putB_size _ _ _ _).symm) (RdItems.nil _ _) (fun h => dd.out.out _ (Nat.le_of_eq (putB_size _ _ _ _)) (ND.of h)) hbl3).mono ?_; rintro e w3 ⟨rfl, hst, hcs⟩; have q5 := (hcs 5 (Nat.le_of_ble_eq_true rfl)).trans (cell_blk (blk_old (putB_blk _ _ _ _ zD) _) 5 _ rfl); clear hcs))
        go_wp2
        obtain ⟨O3, hd3, hk3, hn3⟩ := hst
        have hls : (ks.take (k + 1)).map askL = (ks.take k).map askL ++ [{ kind := 1, src := r1.id, dst := x, ep := r1.epoch, pos := log.length, aep := lastF log, items := [], conf := 0, yes := false }] := by
          rw [HX.out, List.map_append]; simp only [List.map_cons, List.map_nil]; rw [HAS.out, HR1.out]
        have K9 := zK.trans' (((((Kept.refl NoM _).drew.alloc _).of_no (M := MD (w.heap.size + 2) Ox)).trans hk3) |>.onB (.inl rfl)) (MD.sub hN)
        go_roundw
        case rel => exact ⟨k + 1, by omega, by go_num, O3, by rw [hls]; exact hd3, K9, hN.trans hn3 (by simp only [World.size_alloc, putB_size, World.size_drew]; omega)⟩
        case measure => simp [intOf]; omega
      · obtain rfl : k = ks.length := by omega
        rw [List.take_length] at hdr
        obtain ⟨r3, hr3⟩ : ∃ r3, r3 = r1 := ⟨_, rfl⟩
        obtain ⟨ls3, hls3⟩ : ∃ ls3, ls3 = ks.map askL := ⟨_, rfl⟩
        rw [← hr3, ← hls3] at hdr HF
        clear hr3 hls3
        obtain ⟨O3, ⟨lv3, vv3, mv3, tv3, hb3', q1, q2, q3, q4, q5⟩, k3, n3⟩ : ∃ O3, Deed wr (w.heap.size + 2) O3 r3 ls3 ∧ Kept (MD (w.heap.size + 2) none) w2 wr ∧ NewO w2 none O3 := ⟨Ox, hdr, hK, hN⟩
        clear hdr hK hN
        obtain ⟨w3, ew3⟩ : ∃ w3, w3 = wr := ⟨_, rfl⟩
        subst ew3
        have hz3 := k3.size
        have KW3 : Kept NoM w w3 := KW2.trans' k3 (fun i hi h => by
          rcases h with h | h
          · omega
          · cases h)
        have bZ3 := k3.blk HB.out (by
          rintro (h | h)
          · omega
          · cases h)
        obtain ⟨w4, e4, z4⟩ : ∃ w4, w3 = putB (putB w4 (w.heap.size + 1) _ 32) (w.heap.size + 2) _ 77 ∧ w.heap.size + 3 ≤ w4.heap.size := ⟨w3, expose2 bZ3 hb3', by omega⟩
        obtain ⟨la3, lcap3, rfl, _, _⟩ := q1.shape
        obtain ⟨va3, vcap3, rfl, _, _⟩ := q2.shape
        obtain ⟨ma3, mcap3, rfl, _, _⟩ := q3.shape
        obtain ⟨ta3, tcap3, rfl, _⟩ := q4.shape
        subst e4
        have y1 : w.heap.size + 1 < w4.heap.size := by omega
        have y2 : w.heap.size + 2 < w4.heap.size := by omega
        have hO3 : ∀ g, O3 = some g → w.heap.size + 2 < g := by
          intro g hg
          rcases n3 with rfl | ⟨g', rfl, hg2⟩
          · cases hg
          · cases hg; omega
        go_wp2_with fail
        go_region
        all_goals go_wp2
        refine bodyPost_ret (v := .tuple #[.agg #[.int .i64 r3.id, .int .i64 r3.count, .int .i64 r3.epoch, .int .i64 r3.voted, .int .i64 r3.role, .slice la3 r3.log.length lcap3, .int .i64 r3.conf, .slice va3 r3.votes.length vcap3, .slice ma3 r3.mat.length mcap3], .slice ta3 ls3.length tcap3]) (by simp [results, Tryd.results21, go_sem, y1, y2]) rfl ?_
        rw [HF.out]
        exact hands_mk (D := w.heap.size + 2) q1 q2 q3 q4 (fun g hg => by have := hO3 g hg; omega) rfl (kept_two (by omega)) (KW3.trans' (kept_two (D := w.heap.size + 2) (by omega)) (fun i hi h => by rcases h with h | h <;> omega)) rfl
end Go.Proofs.YtgohploghbimlaaDoor
