/- Walk: the law that what is confirmed stays. -/
import Derived.Test.YtgohploghbimlaaDoorKTO
import Derived.Test.YtgohploghbimlaaDoorKTK
import Derived.Test.YtgohploghbimlaaDoorKKJ
import Derived.BigRegion
import Derived.Deep.CutRange
import Derived.Deep.DeepCutAuto
import Derived.Deep.RegionHeld3
import Derived.Maps.OwnOps
set_option linter.unusedVariables false
set_option linter.unusedSimpArgs false
set_option linter.unusedSectionVars false
namespace Go.Proofs.YtgohploghbimlaaDoor
open Go.RowKit Go.Maps
set_option maxHeartbeats 4000000
set_option maxRecDepth 4000

theorem law42 : Keyed Tryd.prog 3 := int_keyed Tryd.underlying3
theorem zero3 (w : World) : (zeroValue 3).run Tryd.prog w = .ok (.int .i64 0) w := by kernel_rfl

theorem keeps_ok (count : Int) (a : Option Addr) (cap : Nat) (evs : List (Int × Int × Int)) (w : World) (hx : AtEvs w a evs) (ht : PowTab w) :
    Calls Tryd.prog 4 #[.int .i64 count, .slice a evs.length cap] w fun e w' => e = .returned (.bool true) ∧ Kept NoM w w' := by
  by_cases h1 : count < 1
  · clear hx
    go_enter Tryd.func4, Tryd.ntmps4
    go_wp2_with fail
    refine (sanity_ok _).mono ?_
    rintro e w1 ⟨rfl, k1⟩
    go_wp2_with fail
    go_ret
    exact ⟨rfl, k1⟩
  by_cases h5 : (5 : Int) < count
  · clear hx
    have t0 : decide (count < 1) = false := decide_eq_false h1
    clear h1
    go_enter Tryd.func4, Tryd.ntmps4
    go_wp2_with fail
    refine (sanity_ok _).mono ?_
    rintro e w1 ⟨rfl, k1⟩
    go_wp2_with fail
    go_ret
    exact ⟨rfl, k1⟩
  by_cases hl : (60 : Int) < evs.length
  · clear hx
    have t0 : decide (count < 1) = false := decide_eq_false h1
    have t1 : decide ((5 : Int) < count) = false := decide_eq_false h5
    clear h1
    clear h5
    go_enter Tryd.func4, Tryd.ntmps4
    go_wp2_with fail
    refine (sanity_ok _).mono ?_
    rintro e w1 ⟨rfl, k1⟩
    go_wp2_with fail
    go_ret
    exact ⟨rfl, k1⟩
  obtain ⟨n, rfl⟩ := Int.eq_ofNat_of_zero_le (show 0 ≤ count by omega)
  have t0 : decide ((n : Int) < 1) = false := decide_eq_false h1
  have t1 : decide ((5 : Int) < (n : Int)) = false := decide_eq_false h5
  have t2 : decide ((60 : Int) < evs.length) = false := decide_eq_false hl
  have t2n : decide (60 < evs.length) = false := decide_eq_false (by omega)
  have hn7 : n ≤ 7 := by omega
  have hn5 : n ≤ 5 := by omega
  have hn1 : 1 ≤ n := by omega
  have hl60 : evs.length ≤ 60 := by omega
  have HX := Lib.hid hx
  have HT := Lib.hid ht
  clear hx ht h1 h5 hl
  have hmm := @run_makeMap Tryd.prog
  go_enter Tryd.func4, Tryd.ntmps4
  go_wp2_with fail
  go_loopw [6] (fun i wr => ∃ k : Nat, k ≤ n ∧ i = .int .i64 k ∧ ∃ a cap O, wr.heap[w.heap.size]? = some (.cells #[.slice a k cap, .slice none 0 0] 27 (0, 0)) ∧ OwnS wr O 32 9 ENil (.slice a k cap) (newsF n k) ∧ (∀ g, O = some g → w.heap.size < g) ∧ Kept NoM w wr) (fun i _ => n - (intOf i).toNat)
  case atStart =>
    exact ⟨0, Nat.zero_le _, rfl, none, 0, none, blk_new' _ _ _ rfl, (OwnS.nil _ _ _ _ : OwnS _ none 32 9 ENil (.slice none 0 0) []), (by simp), (Kept.refl NoM w).alloc _⟩
  case round =>
    obtain ⟨k, hk, rfl, a2, cap2, O, hb, own, hO, hK⟩ := hrel
    by_cases hlt : k < n
    · have hki : (k : Int) < n := by omega
      have zb := lt_of_block hb
      have HBW := Lib.hid hb
      have OWN := Lib.hid own
      have HO := Lib.hid hO
      have HK := Lib.hid hK
      have hls : (newsF n k).length = k := newsF_len n k
      have HLS := Lib.hid hls
      clear hb own hO hK hls hlt
      go_wp2_with fail
      refine (new_ok k n (by omega) (by omega) (by omega) (by omega) _).mono ?_
      rintro e w1 ⟨rfl, k1⟩
      have b1 := k1.blk HBW.out (fun x => x)
      have c0 := cell_blk b1 0 _ rfl
      have z1 := lt_of_block b1
      have B1 := Lib.hid b1
      have OWN1 := Lib.hid (OWN.out.kept k1 (fun _ _ x => x) (fun _ _ h => h))
      have hrd : RdS ((w1.alloc (.cells #[.int .i64 k, .int .i64 n, .int .i64 0, .int .i64 (-1), .int .i64 1, .slice none 0 0, .int .i64 0, .slice none 0 0, .slice none 0 0] 32)).alloc (.cells #[.int .i64 k, .int .i64 n, .int .i64 0, .int .i64 (-1), .int .i64 1, .slice none 0 0, .int .i64 0, .slice none 0 0, .slice none 0 0] 32 (0, 0))) NoM 9 ENil (.slice (some ⟨w1.heap.size + 1, 0, none⟩) 1 1) [(⟨k, n, 0, -1, 1, [], 0, [], []⟩ : Rep)] := rd_one (x := (⟨k, n, 0, -1, 1, [], 0, [], []⟩ : Rep)) (blk_new' _ _ _ (by simp)) (fun h => h) ⟨rfl, rfl, rfl, rfl⟩ rfl
      have hoo : ∀ o1 o2, OwnS ((w1.alloc o1).alloc o2) O 32 9 ENil (.slice a2 k cap2) (newsF n k) := fun o1 o2 => OWN1.out.kept (((Kept.refl NoM w1).alloc o1).alloc o2) (fun _ _ x => x) (fun _ _ h => h)
      have HRD := Lib.hid hrd
      have HOO := Lib.hid hoo
      have hm1 : k + 1 ≤ maxLen := by unfold maxLen; omega
      have hm2 : (k + 1) * 120 ≤ 140737488355328 := by omega
      clear b1 hrd hoo
      go_wp2_with (at_builtin; go_loud (refine wpList_append_S (M := NoM) rfl (.tmp 49) (.tmp 51) 24 rfl 120 tyReps _ rfl (HOO.out _ _) _ rfl HRD.out eNil_one k 1 HLS.out rfl hm1 hm2 ?_; intro a1 cap1 w4 O1 own1 k4 n1; obtain ⟨w5, e5, z5⟩ : ∃ w5, w4 = putB w5 w.heap.size #[.slice a2 k cap2, .slice none 0 0] 27 ∧ w.heap.size < w5.heap.size := ⟨w4, putB_self (k4.blk (blk_old (blk_old B1.out _) _) (fun h => by have := HO.out _ h.symm; omega)), by have := k4.size; simp at this; omega⟩; rw [e5]; have E5 := Lib.hid e5; clear e5; have KK4 := Lib.hid k4; have OO1 := Lib.hid own1; have NN1 := Lib.hid n1; clear k4 own1 n1))
      have e5 := E5.out
      have k4 := KK4.out
      have own1 := OO1.out
      rw [e5] at k4 own1
      have kfin : Kept (fun k => k = w.heap.size) (putB w5 w.heap.size #[.slice a2 k cap2, .slice none 0 0] 27) (putB w5 w.heap.size #[.slice a1 (k + 1) cap1, .slice none 0 0] 27) := ((Kept.refl (fun k => k = w.heap.size) w5).putM (b := w.heap.size) rfl _ 27).offB rfl
      have hO1 : ∀ g, O1 = some g → w.heap.size < g := by
        intro g hg
        rcases NN1.out with h | ⟨g', h, hg2⟩
        · exact HO.out g (by rw [← h, hg])
        · rw [hg] at h; cases h; simp at hg2; omega
      have KF : Kept NoM w (putB w5 w.heap.size #[.slice a1 (k + 1) cap1, .slice none 0 0] 27) := ((((HK.out.trans k1).alloc _).alloc _).trans' k4 (fun i hi h => by have := HO.out _ h.symm; omega)).trans' kfin (fun i hi h => by have h : i = w.heap.size := h; omega)
      have ownF := own1.kept kfin (fun g hg h => by have := hO1 g hg; have h : g = w.heap.size := h; omega) (fun _ _ h => h)
      go_roundw
      case rel => exact ⟨k + 1, by omega, by go_num, a1, cap1, O1, putB_blk _ _ _ _ z5, by rw [newsF_succ]; exact ownF, hO1, KF⟩
      case measure => simp [intOf]; omega
    · obtain rfl : k = n := by omega
      have hf := decide_eq_false (show ¬ (k : Int) < k by omega)
      have hsan : @San ⟨NoM⟩ k w wr w.heap.size ⟨newsF k k, []⟩ := @san_new ⟨NoM⟩ _ _ _ _ O _ _ (WOk.news hn7) hb own (Nat.le_refl _) (fun g hg => by have := hO g hg; omega) (fun _ h => h.elim) hK
      have HSAN := Lib.hid hsan
      have zb := lt_of_block hb
      clear hsan hb own hO hK hlt
      generalize hWW : w.heap.size = W at *
      have HWW := Lib.hid hWW
      clear hWW
      go_wp2_with fail
      obtain ⟨wo, hwo⟩ : ∃ wo, wo = wr := ⟨_, rfl⟩
      subst hwo
      obtain ⟨W1, hW1⟩ : ∃ W1, (wo.alloc (.cells #[] 3)).alloc (.map #[] 0) = W1 := ⟨_, rfl⟩
      have hmem : Mem k w W1 W ⟨newsF k k, []⟩ none (some wo.heap.size) (wo.heap.size + 1) 0 (.slice none 0 0) (.slice (some ⟨wo.heap.size, 0, none⟩) 0 0) [] [] (.map []) := by
        rw [← hW1]
        refine Mem.start HSAN.out (OwnS.empty (blk_old (blk_new' _ _ _ rfl) _)) (fun g hg => by cases hg; omega) ?_ (((Kept.refl NoM wo).alloc _).alloc _) (by omega)
        have := World.ownsMap_made (H := Unit) (wo.alloc (.cells #[] 3)) Tryd.prog 3 (plainElem Tryd.prog 3)
        rw [World.size_alloc] at this
        exact this
      rw [hW1]
      have HMEM := Lib.hid hmem
      have zwo : W < wo.heap.size := zb
      clear hmem hW1
      obtain ⟨bm, hbm⟩ : ∃ bm, wo.heap.size + 1 = bm := ⟨_, rfl⟩
      rw [hbm] at HMEM ⊢
      go_loopw [9, 10, 12] (fun v9 v10 i wx => ∃ q s cf wh Oc Ow nm D G m, q ≤ evs.length ∧ i = .int .i64 q ∧ Mem k w wx W s Oc Ow bm nm v9 v10 cf wh D ∧ Inv k G s ∧ Seen k G s.lets cf wh ∧ MapIs D m ∧ Heads G m ∧ s.lets.length ≤ 7 * q ∧ cf.length ≤ 1000 ∧ nm ≤ 7 * q) (fun _ _ i _ => evs.length - (intOf i).toNat)
      case atStart => exact ⟨0, _, _, _, _, _, _, _, _, _, Nat.zero_le _, rfl, HMEM.out, Inv.news k, Seen.nil, MapIs.nil, (fun e k h => by cases h), Nat.le_refl _, Nat.zero_le _, Nat.zero_le _⟩
      case round =>
        obtain ⟨q, s, cf, wh, Oc, Ow, nm, D, G, m, hq, rfl, hM, hI, hS, hD, hH, hlen, hcl, hnm⟩ := hrel
        by_cases hlt : q < evs.length
        · obtain ⟨⟨ek, ea, eb⟩, he⟩ := get_at hlt
          obtain ⟨b, off, rfl, x0, x1, x2, x3, x4⟩ := HX.out q _ he
          have hqi : (q : Int) < evs.length := by omega
          have x0 := hM.san.base.cell x0 (fun x => x)
          have x1 := hM.san.base.cell x1 (fun x => x)
          have x2 := hM.san.base.cell x2 (fun x => x)
          have hplay := sanB_play itoaF hM.san hn7 (by omega) (kind := ek) (a := ea) (b := eb) rfl (fun _ W1 k1 => itoa_ok HT.out eb x3 x4 W1 k1)
          have hl7 := hM.san.ok.inv.playedLen itoaF ek ea eb
          have hlets := playF_lets itoaF s ek ea eb
          obtain ⟨G2, hx2, hI2⟩ := hI.played itoaF ek ea eb
          obtain ⟨s', hs'⟩ : ∃ s', playF itoaF s ek ea eb = s' := ⟨_, rfl⟩
          rw [hs'] at hplay hl7 hlets hI2
          have hS2 := hS.ext hx2 hlets
          have hH2 := hH.ext hx2
          have HP := Lib.hid hplay
          have HM := Lib.hid hM
          have HI := Lib.hid hI2
          have HSS := Lib.hid hS2
          have HHH := Lib.hid hH2
          have HDD := Lib.hid hD
          have HL7 := Lib.hid hl7
          clear hplay hM hI hS hD hH he hs' hlt hl7 hlets hx2 hI2 hS2 hH2
          go_wp2_with fail
          refine HP.out.mono ?_
          rintro e w3 ⟨rfl, S3, K3⟩
          have hM3 := HM.out.played S3 K3
          have HM3 := Lib.hid hM3
          clear S3 K3 x0 x1 x2 HP HM hM3
          go_wp2_with fail
          go_loopw [9, 10, 14] (fun v9 v10 i wx => ∃ kk cf wh Oc Ow, kk ≤ k ∧ i = .int .i64 kk ∧ Mem k w wx W s' Oc Ow bm nm v9 v10 cf wh D ∧ Seen k G2 s'.lets cf wh ∧ cf.length ≤ 1000) (fun _ _ i _ => k - (intOf i).toNat)
          case atStart => exact ⟨0, _, _, _, _, Nat.zero_le _, rfl, HM3.out, HSS.out, hcl⟩
          case round =>
            obtain ⟨kk, cf1, wh1, Oc1, Ow1, hkk, rfl, hM, hS, hcl1⟩ := hrel
            by_cases hlt : kk < k
            · obtain ⟨r, hr⟩ := get_at (xs := s'.reps) (k := kk) (by rw [hM.san.ok.inv.len]; exact hlt)
              have hrl := hM.san.ok.inv.len
              obtain ⟨hv, hid, hcnt⟩ := hM.san.ok.inv.rep kk r hr
              obtain ⟨g, cap3, zW, zg, nW, ng, r0, rows⟩ := hM.san.rows (by omega)
              obtain ⟨la, lc, va, vc, ma, mc, f, q1, q2, q3⟩ := rows kk r hr
              have hji : (kk : Int) < k := by omega
              have c0 : wr.cell? ⟨g, kk * 9, none⟩ = some (.int .i64 r.id) := f 0 _ rfl
              have c1 : wr.cell? ⟨g, kk * 9 + 1, none⟩ = some (.int .i64 r.count) := f 1 _ rfl
              have c2 : wr.cell? ⟨g, kk * 9 + 2, none⟩ = some (.int .i64 r.epoch) := f 2 _ rfl
              have c3 : wr.cell? ⟨g, kk * 9 + 3, none⟩ = some (.int .i64 r.voted) := f 3 _ rfl
              have c4 : wr.cell? ⟨g, kk * 9 + 4, none⟩ = some (.int .i64 r.role) := f 4 _ rfl
              have c5 : wr.cell? ⟨g, kk * 9 + 5, none⟩ = some (.slice la r.log.length lc) := f 5 _ rfl
              have c6 : wr.cell? ⟨g, kk * 9 + 6, none⟩ = some (.int .i64 r.conf) := f 6 _ rfl
              have c7 : wr.cell? ⟨g, kk * 9 + 7, none⟩ = some (.slice va r.votes.length vc) := f 7 _ rfl
              have c8 : wr.cell? ⟨g, kk * 9 + 8, none⟩ = some (.slice ma r.mat.length mc) := f 8 _ rfl
              rw [hrl] at r0
              obtain ⟨w2, hw2⟩ : ∃ w2, wr.alloc (.cells #[.int .i64 r.id, .int .i64 r.count, .int .i64 r.epoch, .int .i64 r.voted, .int .i64 r.role, .slice la r.log.length lc, .int .i64 r.conf, .slice va r.votes.length vc, .slice ma r.mat.length mc] 32) = w2 := ⟨_, rfl⟩
              have k2 : Kept NoM wr w2 := by rw [← hw2]; exact (Kept.refl NoM wr).alloc _
              have b2 : w2.heap[wr.heap.size]? = some (.cells #[.int .i64 r.id, .int .i64 r.count, .int .i64 r.epoch, .int .i64 r.voted, .int .i64 r.role, .slice la r.log.length lc, .int .i64 r.conf, .slice va r.votes.length vc, .slice ma r.mat.length mc] 32 (0, 0)) := by rw [← hw2]; exact blk_new _ _
              have hmeet := (HI.out).meets hr hS
              have hmore := (HI.out).more hr hS
              have hmlen : moreCf cf1 r = if cf1.length < r.conf.toNat then r.log.take r.conf.toNat else cf1 := rfl
              have HV := Lib.hid (rvalid_ok r _ _ _ w2 ((q1.kept k2.of_no).any) ((q2.kept k2.of_no).any) ((q3.kept k2.of_no).any) hv)
              have tid : (r.id != (kk : Int)) = false := by rw [bne_eq_false_iff_eq]; exact hid
              have tidd : decide (r.id = (kk : Int)) = true := decide_eq_true hid
              have HM := Lib.hid (hM.kept k2)
              have HQ1 := Lib.hid (q1.kept (M := FB Oc1 Ow1 bm) k2.of_no)
              have HSS := Lib.hid hS
              have HMEET := Lib.hid hmeet
              have HMORE := Lib.hid hmore
              have HR := Lib.hid hr
              have HVV := Lib.hid hv
              have B2 := Lib.hid b2
              have hnb : ∀ i, FB Oc1 Ow1 bm i → i < wr.heap.size := hM.lt
              have HNB := Lib.hid hnb
              have HW2 := Lib.hid hw2
              clear f q1 q2 q3 rows hr hM hS hlt hv hrl hmeet hmore k2 b2 hmlen hnb hid hcnt hw2
              go_wp2_with fail
              rw [HW2.out]
              refine HV.out.mono ?_
              rintro e w4 ⟨rfl, k4⟩
              have M4 := HM.out.kept k4
              have b4 := k4.blk B2.out (fun x => x)
              have q4 := HQ1.out.kept k4.of_no
              have zb4 := lt_of_block b4
              obtain ⟨cn, hcn⟩ := Int.eq_ofNat_of_zero_le HVV.out.cf0
              have hcl4 := HVV.out.cf1
              have hll4 := HVV.out.len
              have hcnl : cn ≤ r.log.length := by omega
              have hcni : (cn : Int) ≤ lc := by
                obtain ⟨_, _, e1, hc, _⟩ := q4.shape
                simp only [Value.slice.injEq] at e1
                omega
              have hcll : r.log.length ≤ lc := by
                obtain ⟨_, _, e1, hc, _⟩ := q4.shape
                simp only [Value.slice.injEq] at e1
                omega
              obtain ⟨ii, iz, ty1, ty2, _, ty4, _⟩ := tyItems
              obtain ⟨sa, sc, hsl, hsrd⟩ := RdS.slice (P := Tryd.prog) 28 45 ii ty1 ty2 ty4 q4 0 cn (Nat.zero_le _) hcnl none (.inr ⟨rfl, rfl⟩)
              simp only [List.drop_zero, Nat.sub_zero] at hsl hsrd
              have d2 : w4.cell? ⟨wr.heap.size, 2, none⟩ = some (.int .i64 r.epoch) := cell_blk b4 2 _ rfl
              have d5 : w4.cell? ⟨wr.heap.size, 5, none⟩ = some (.slice la r.log.length lc) := cell_blk b4 5 _ rfl
              have d6 : w4.cell? ⟨wr.heap.size, 6, none⟩ = some (.int .i64 cn) := by rw [← hcn]; exact cell_blk b4 6 _ rfl
              have d0 : w4.cell? ⟨wr.heap.size, 0, none⟩ = some (.int .i64 r.id) := cell_blk b4 0 _ rfl
              have hmeet := HMEET.out
              have hmore := HMORE.out
              unfold moreCf moreWh at hmore
              rw [hcn, Int.toNat_natCast] at hmeet hmore
              obtain ⟨a9, c9, rfl, hc9, hm9, _, _⟩ := M4.cf.shape
              have r9 : RdItems w4 NoM (.slice a9 cf1.length c9) cf1 := M4.cf.rd (fun _ _ x => x)
              have hpre : ∀ (i : Nat) x y, (r.log.take cn)[i]? = some x → cf1[i]? = some y → x = y := by
                intro i x y hx hy
                rcases hmeet with hm | hm
                · obtain ⟨t, rfl⟩ := hm
                  rw [List.getElem?_append_left (List.getElem?_eq_some_iff.1 hx).1, hx] at hy
                  exact Option.some.inj hy
                · obtain ⟨t, ht⟩ := hm
                  rw [← ht, List.getElem?_append_left (List.getElem?_eq_some_iff.1 hy).1, hy] at hx
                  exact (Option.some.inj hx).symm
              have htl : (r.log.take cn).length = cn := by rw [List.length_take]; omega
              have HPR := Lib.hid (prefix_ok (.slice sa cn sc) (.slice a9 cf1.length c9) (r.log.take cn) cf1 w4 (RdItems.any hsrd) r9 hpre (by rw [htl]; omega))
              have H4 := Lib.hid M4
              have HB4 := Lib.hid b4
              have HQ4 := Lib.hid q4
              have HSR : Hid (RdItems w4 (FB Oc1 Ow1 bm) (.slice sa cn sc) (r.log.take cn)) := Lib.hid hsrd
              have HME := Lib.hid hmeet
              have HMO := Lib.hid hmore
              have HTL := Lib.hid htl
              have HCN := Lib.hid hcn
              clear M4 b4 q4 hsrd r9 hpre htl hmeet hmore HMEET HMORE c0 c1 c2 c3 c4 c5 c6 c7 c8 r0 zW zg nW ng HV HM HQ1 B2 hcn k4
              go_wp2_with fail
              refine HPR.out.mono ?_
              rintro e w5 ⟨rfl, n5, rfl⟩
              go_wp2_with fail
              obtain ⟨bq, hbq⟩ : ∃ bq, wr.heap.size = bq := ⟨_, rfl⟩
              obtain ⟨C, hC⟩ : ∃ C, (#[.int .i64 r.id, .int .i64 r.count, .int .i64 r.epoch, .int .i64 r.voted, .int .i64 r.role, .slice la r.log.length lc, .int .i64 r.conf, .slice va r.votes.length vc, .slice ma r.mat.length mc] : Array Value) = C := ⟨_, rfl⟩
              have hC2 : C[2]? = some (.int .i64 r.epoch) := by rw [← hC]; rfl
              have hC5 : C[5]? = some (.slice la r.log.length lc) := by rw [← hC]; rfl
              have hside : Side (w4.drewN n5) (FB Oc1 Ow1 bm) bq C (.slice la r.log.length lc) r.log (.slice sa cn sc) (r.log.take cn) := by
                refine ⟨?_, fun h => ?_, HQ4.out.kept ((Kept.refl _ w4).drewN n5), HSR.out.kept ((Kept.refl _ w4).drewN n5)⟩
                · rw [← hC, ← hbq]; exact HB4.out
                · have := HNB.out _ h; omega
              have hM5 := H4.out.kept ((Kept.refl NoM w4).drewN n5)
              have HM5 := Lib.hid hM5
              have HSD := Lib.hid hside
              have HC2 := Lib.hid hC2
              have HC5 := Lib.hid hC5
              have hcf0 : (if cf1.length < cn then r.log.take cf1.length else cf1) = cf1 := by
                split
                · next hl =>
                  rcases HME.out with hm | hm
                  · have := hm.length_le
                    rw [HTL.out] at this
                    omega
                  · have e1 := prefix_eq_take hm
                    rw [List.take_take, Nat.min_eq_left (by omega)] at e1
                    exact e1.symm
                · rfl
              have hwl1 : wh1.length = cf1.length := HSS.out.len
              have HCF0 := Lib.hid hcf0
              have HWL1 := Lib.hid hwl1
              rw [hbq]
              clear hC hbq hC2 hC5 hside hM5 hcf0 hwl1 H4 HB4 HQ4 HSR HNB HPR d0 d2 d5 d6 hsl zb4
              generalize w4.drewN n5 = w5 at *
              go_loopw [9, 10] (fun v9 v10 wx => ∃ t cf wh Oc Ow, cf1.length ≤ t ∧ cf.length = t ∧ (cf1.length < cn → t ≤ cn) ∧ (cn ≤ cf1.length → t = cf1.length) ∧ cf = (if cf1.length < cn then r.log.take t else cf1) ∧ wh = wh1 ++ List.replicate (t - cf1.length) r.epoch ∧
                Mem k w wx W s' Oc Ow bm nm v9 v10 cf wh D ∧ Side wx (FB Oc Ow bm) bq C (.slice la r.log.length lc) r.log (.slice sa cn sc) (r.log.take cn)) (fun v9 _ _ => cn - lenV v9)
              case atStart => exact ⟨cf1.length, cf1, wh1, Oc1, Ow1, Nat.le_refl _, rfl, (fun h => Nat.le_of_lt h), (fun _ => rfl), HCF0.out.symm, by simp, HM5.out, HSD.out⟩
              case round =>
                obtain ⟨t, cf2, wh2, Oc2, Ow2, ht0, htl2, ht1, ht2, hcf2, hwh2, hM, hsd⟩ := hrel
                obtain ⟨a92, c92, rfl, hc92, hm92, _, _⟩ := hM.cf.shape
                obtain ⟨a102, c102, rfl, hc102, hm102, _, _⟩ := hM.wh.shape
                by_cases hlt : t < cn
                · have hl1 : cf1.length < cn := by
                    apply Classical.byContradiction
                    intro hn
                    have := ht2 (by omega)
                    omega
                  obtain ⟨x, hx⟩ := get_at (xs := r.log) (k := t) (by omega)
                  have hx2 : (r.log.take cn)[t]? = some x := by rw [List.getElem?_take, if_pos hlt]; exact hx
                  obtain ⟨xb, xoff, hxe, _, hxb, x0, x1⟩ := hsd.2.2.2.at hx2
                  subst hxe
                  have hti : (t : Int) < cn := by omega
                  have hwl2 : wh2.length = t := by rw [hwh2, List.length_append, List.length_replicate, HWL1.out]; omega
                  rw [if_pos hl1] at hcf2
                  have hnext : r.log.take (t + 1) = cf2 ++ [x] := by rw [hcf2, List.take_add_one, hx]; rfl
                  have hwnext : wh1 ++ List.replicate (t + 1 - cf1.length) r.epoch = wh2 ++ [r.epoch] := by
                    rw [hwh2, List.append_assoc, ← List.replicate_succ', show t + 1 - cf1.length = t - cf1.length + 1 by omega]
                  rw [htl2] at hM ⊢
                  rw [hwl2] at hM ⊢
                  have HM6 := Lib.hid hM
                  have HS6 := Lib.hid hsd
                  have HNX := Lib.hid hnext
                  have HWN := Lib.hid hwnext
                  have HTL2 := Lib.hid htl2
                  have HWL2 := Lib.hid hwl2
                  have hoo : ∀ o, OwnS (wr.alloc o) Oc2 45 2 EItem (.slice a92 t c92) cf2 := fun o => hM.cf.kept ((Kept.refl NoM wr).alloc o) (fun _ _ x => x) (fun _ _ h => h)
                  have hrd : RdS (wr.alloc (.cells #[.int .i64 x.ep, .string x.tx] 45 (0, 0))) NoM 2 EItem (.slice (some ⟨wr.heap.size, 0, none⟩) 1 1) [x] := rd_one (x := x) (blk_new _ _) (fun h => h) rfl rfl
                  have HOO := Lib.hid hoo
                  have HRD := Lib.hid hrd
                  have hm1 : t + 1 ≤ maxLen := by unfold maxLen; omega
                  have hm2 : (t + 1) * 24 ≤ 140737488355328 := by omega
                  have hm3 : (t + 1) * 8 ≤ 140737488355328 := by omega
                  clear hM hsd hnext hwnext htl2 hwl2 hoo hrd hx hx2 hcf2 hwh2 ht1 ht2 hlt
                  go_wp2_with (first
                    | (at_builtin; refine wpList_append_S (M := NoM) rfl (.tmp 102) (.tmp 108) 28 rfl 24 tyItems _ rfl (HOO.out _) _ rfl HRD.out eItem_one t 1 HTL2.out rfl hm1 hm2 ?_; intro a6 cap6 w6 O6 own6 k6 n6; have M6 := (HM6.out.kept ((Kept.refl NoM wr).alloc _)).addCf own6 k6 n6; have S6 := (HS6.out.kept ((Kept.refl NoM wr).alloc _)).step (k6.mono fun _ _ h => .inl h) (fb_cf n6); have e2 : w6.cell? ⟨bq, 2, none⟩ = some (.int .i64 r.epoch) := cell_blk S6.1 2 _ HC2.out; have zb6 := lt_of_block S6.1; have HM7 := Lib.hid M6; have HS7 := Lib.hid S6; clear M6 S6 own6 k6 n6)
                    | (at_builtin; refine wpList_append_S (M := NoM) rfl (.tmp 110) (.tmp 113) 30 rfl 8 tyInts _ rfl (HM7.out.kept ((Kept.refl NoM w6).alloc _)).wh _ rfl (rd_one (x := r.epoch) (blk_new _ _) (fun h => h) rfl rfl) eInt_one t 1 HWL2.out rfl hm1 hm3 ?_; intro a7 cap7 w7 O7 own7 k7 n7; have M7 := (HM7.out.kept ((Kept.refl NoM w6).alloc _)).addWh own7 k7 n7; have S7 := (HS7.out.kept ((Kept.refl NoM w6).alloc _)).step (k7.mono fun _ _ h => .inr (.inl h)) (fb_wh n7); have HM8 := Lib.hid M7; have HS8 := Lib.hid S7; clear M7 S7 own7 k7 n7))
                  go_roundw
                  case rel => exact ⟨t + 1, _, _, _, _, by omega, by rw [List.length_append, HTL2.out]; rfl, (fun _ => by omega), (fun h => by omega), by rw [if_pos hl1, HNX.out], HWN.out.symm, HM8.out, HS8.out⟩
                  case measure => simp [lenV]; omega
                · have hwl2 : wh2.length = t := by rw [hwh2, List.length_append, List.length_replicate, HWL1.out]; omega
                  have hS2 : Seen k G2 s'.lets cf2 wh2 := by
                    have h := HMO.out
                    rw [HWL1.out] at h
                    by_cases hl1 : cf1.length < cn
                    · have e1 : t = cn := by have := ht1 hl1; omega
                      rw [if_pos hl1] at h hcf2
                      rw [e1] at hcf2 hwh2
                      rw [hcf2, hwh2]
                      exact h
                    · have e1 : t = cf1.length := ht2 (by omega)
                      rw [if_neg hl1] at h hcf2
                      rw [e1, show cf1.length - cf1.length = cn - cf1.length by omega] at hwh2
                      rw [hcf2, hwh2]
                      exact h
                  have ht1000 : cf2.length ≤ 1000 := by
                    by_cases hl1 : cf1.length < cn
                    · have := ht1 hl1; omega
                    · have := ht2 (by omega); omega
                  have HS2 := Lib.hid hS2
                  have HM2 := Lib.hid hM
                  have HSD2 := Lib.hid hsd
                  have f4 := decide_eq_false (show ¬ (cf2.length : Int) < cn by omega)
                  have f4n := decide_eq_false (show ¬ cf2.length < cn by omega)
                  clear hS2 hM hsd hwl2 hcf2 hwh2 ht0 ht1 ht2 htl2 hlt HMO
                  obtain ⟨we, hwe⟩ : ∃ we, we = wr := ⟨_, rfl⟩
                  subst hwe
                  go_wp2_with fail
                  go_loopw [17] (fun i wx => ∃ jj : Nat, jj ≤ kk ∧ i = .int .i64 jj ∧ Kept NoM we wx) (fun i _ => kk - (intOf i).toNat)
                  case atStart => exact ⟨0, Nat.zero_le _, rfl, Kept.refl _ _⟩
                  case round =>
                    obtain ⟨jj, hjj, rfl, hKX⟩ := hrel
                    by_cases hltj : jj < kk
                    · have hMX := HM2.out.kept hKX
                      have hSX := HSD2.out.kept hKX
                      have hrl := hMX.san.ok.inv.len
                      obtain ⟨rj, hrj⟩ := get_at (xs := s'.reps) (k := jj) (by omega)
                      obtain ⟨g5, cap5, zW5, zg5, _, _, r5, rows5⟩ := hMX.san.rows (by omega)
                      obtain ⟨la5, lc5, _, _, _, _, f5, p5, _, _⟩ := rows5 jj rj hrj
                      rw [hrl] at r5
                      have hjk : (jj : Int) < k := by omega
                      have hjk2 : (jj : Int) < kk := by omega
                      have y5 : wr.cell? ⟨g5, jj * 9 + 5, none⟩ = some (.slice la5 rj.log.length lc5) := f5 5 _ rfl
                      have e5 : wr.cell? ⟨bq, 5, none⟩ = some (.slice la r.log.length lc) := cell_blk hSX.1 5 _ HC5.out
                      have zb5 := lt_of_block hSX.1
                      have HMT : ∀ wv, Kept NoM wr wv → Calls Tryd.prog 14 #[.slice la r.log.length lc, .slice la5 rj.log.length lc5] wv fun e w' => e = .returned (.bool true) ∧ ∃ n, w' = wv.drewN n := fun wv kv =>
                        matching_ok _ _ r.log rj.log wv (RdItems.any (hSX.2.2.1.kept kv.of_no)) (RdItems.any (p5.kept kv.of_no)) (fun i x y hx hy he => (HI.out).logs HR.out hrj hx hy he) (by omega)
                      have HMTH := Lib.hid HMT
                      have HKX := Lib.hid hKX
                      clear hMX hSX hrl hrj rows5 f5 p5 HMT hKX hltj
                      go_wp2_with fail
                      go_quiet ((go_at_call 14; exact quiet_n (HMTH.out _ ((Kept.refl NoM wr).drewN _))))
                      go_wp2_with fail
                      go_roundw
                      case rel => exact ⟨jj + 1, by omega, by go_num, HKX.out.drewN _⟩
                      case measure => simp [intOf]; omega
                    · obtain rfl : jj = kk := by omega
                      have fj := decide_eq_false (show ¬ (jj : Int) < jj by omega)
                      have fjn := decide_eq_false (show ¬ jj < jj by omega)
                      have HKX := Lib.hid hKX
                      clear hKX hltj
                      go_wp2_with fail
                      go_roundw
                      case rel => exact ⟨jj + 1, _, _, _, _, by omega, by go_num, HM2.out.kept HKX.out, HS2.out, ht1000⟩
                      case measure => simp [intOf]; omega
            · obtain rfl : kk = k := by omega
              have fk := decide_eq_false (show ¬ (kk : Int) < kk by omega)
              have fkn := decide_eq_false (show ¬ kk < kk by omega)
              obtain ⟨a9, c9, rfl, hc9, hm9, _, _⟩ := hM.cf.shape
              obtain ⟨a10, c10, rfl, hc10, hm10, _, _⟩ := hM.wh.shape
              have hwl : wh1.length = cf1.length := hS.len
              have HM6 := Lib.hid hM
              have HS6 := Lib.hid hS
              have HWL := Lib.hid hwl
              clear hM hS hlt hwl
              go_wp2_with fail
              go_loopw [18] (fun i wx => ∃ kx nm2 D2 m2, kx ≤ kk ∧ i = .int .i64 kx ∧ Mem kk w wx W s' Oc1 Ow1 bm nm2 (.slice a9 cf1.length c9) (.slice a10 wh1.length c10) cf1 wh1 D2 ∧ MapIs D2 m2 ∧ Heads G2 m2 ∧ nm2 ≤ 7 * q + kx) (fun i _ => kk - (intOf i).toNat)
              case atStart => exact ⟨0, _, _, _, Nat.zero_le _, rfl, HM6.out, HDD.out, HHH.out, by omega⟩
              case round =>
                obtain ⟨kx, nm2, D2, m2, hkx, rfl, hM, hD2, hH2, hnm2⟩ := hrel
                by_cases hlt : kx < kk
                · obtain ⟨r, hr⟩ := get_at (xs := s'.reps) (k := kx) (by rw [hM.san.ok.inv.len]; exact hlt)
                  have hrl := hM.san.ok.inv.len
                  obtain ⟨hv, hid, hcnt⟩ := hM.san.ok.inv.rep kx r hr
                  obtain ⟨g, cap3, zW, zg, nW, ng, r0, rows⟩ := hM.san.rows (by omega)
                  obtain ⟨la, lc, va, vc, ma, mc, f, q1, q2, q3⟩ := rows kx r hr
                  have hji : (kx : Int) < kk := by omega
                  have c0 : wr.cell? ⟨g, kx * 9, none⟩ = some (.int .i64 r.id) := f 0 _ rfl
                  have c1 : wr.cell? ⟨g, kx * 9 + 1, none⟩ = some (.int .i64 r.count) := f 1 _ rfl
                  have c2 : wr.cell? ⟨g, kx * 9 + 2, none⟩ = some (.int .i64 r.epoch) := f 2 _ rfl
                  have c3 : wr.cell? ⟨g, kx * 9 + 3, none⟩ = some (.int .i64 r.voted) := f 3 _ rfl
                  have c4 : wr.cell? ⟨g, kx * 9 + 4, none⟩ = some (.int .i64 r.role) := f 4 _ rfl
                  have c5 : wr.cell? ⟨g, kx * 9 + 5, none⟩ = some (.slice la r.log.length lc) := f 5 _ rfl
                  have c6 : wr.cell? ⟨g, kx * 9 + 6, none⟩ = some (.int .i64 r.conf) := f 6 _ rfl
                  have c7 : wr.cell? ⟨g, kx * 9 + 7, none⟩ = some (.slice va r.votes.length vc) := f 7 _ rfl
                  have c8 : wr.cell? ⟨g, kx * 9 + 8, none⟩ = some (.slice ma r.mat.length mc) := f 8 _ rfl
                  rw [hrl] at r0
                  obtain ⟨w2, hw2⟩ : ∃ w2, wr.alloc (.cells #[.int .i64 r.id, .int .i64 r.count, .int .i64 r.epoch, .int .i64 r.voted, .int .i64 r.role, .slice la r.log.length lc, .int .i64 r.conf, .slice va r.votes.length vc, .slice ma r.mat.length mc] 32) = w2 := ⟨_, rfl⟩
                  have k2 : Kept NoM wr w2 := by rw [← hw2]; exact (Kept.refl NoM wr).alloc _
                  obtain ⟨C, hC⟩ : ∃ C, (#[.int .i64 r.id, .int .i64 r.count, .int .i64 r.epoch, .int .i64 r.voted, .int .i64 r.role, .slice la r.log.length lc, .int .i64 r.conf, .slice va r.votes.length vc, .slice ma r.mat.length mc] : Array Value) = C := ⟨_, rfl⟩
                  have hC2 : C[2]? = some (.int .i64 r.epoch) := by rw [← hC]; rfl
                  have hC4 : C[4]? = some (.int .i64 r.role) := by rw [← hC]; rfl
                  have hC5 : C[5]? = some (.slice la r.log.length lc) := by rw [← hC]; rfl
                  obtain ⟨bq, hbq⟩ : ∃ bq, wr.heap.size = bq := ⟨_, rfl⟩
                  have b2 : w2.heap[bq]? = some (.cells C 32 (0, 0)) := by rw [← hw2, ← hC, ← hbq]; exact blk_new _ _
                  have hM2 := hM.kept k2
                  have hbm : bm < bq := by rw [← hbq]; exact hM.map.lt
                  have hside : Side w2 (FB Oc1 Ow1 bm) bq C (.slice la r.log.length lc) r.log (.slice la r.log.length lc) r.log :=
                    ⟨b2, fun h => by have := hM.lt _ h; omega, q1.kept k2.of_no, q1.kept k2.of_no⟩
                  have hhead := fun h3 => (HI.out).head hr h3 hH2
                  have hbef := fun h3 b hb hall => (HI.out).before hr h3 HS6.out (b := b) hb hall
                  have hep : 0 ≤ r.epoch ∧ r.epoch ≤ 1073741824 := ⟨hv.ep0, hv.ep1⟩
                  have hll := hv.len
                  have hkey : keyOf Tryd.prog 3 (.int .i64 r.epoch) = some (.int .i64 r.epoch) := keyOf_int_mk Tryd.underlying3 (WalkArith.wf_i64 (by omega))
                  have HW2 := Lib.hid hw2
                  have HM2 := Lib.hid hM2
                  have HSD := Lib.hid hside
                  have HC2 := Lib.hid hC2
                  have HC4 := Lib.hid hC4
                  have HC5 := Lib.hid hC5
                  have HHEAD := Lib.hid hhead
                  have HBEF := Lib.hid hbef
                  have HD2 := Lib.hid hD2
                  have HH2 := Lib.hid hH2
                  have HEP := Lib.hid hep
                  have HKEY := Lib.hid hkey
                  have HBQ := Lib.hid hbq
                  have hnm3 : nm2 < maxLen := by unfold maxLen; omega
                  have HWF := Lib.hid (WalkArith.wf_i64 (show -9223372036854775808 ≤ (kx : Int) ∧ (kx : Int) ≤ 9223372036854775807 by omega))
                  by_cases h3 : r.role = 3
                  · have t3 : (r.role != 3) = false := by rw [bne_eq_false_iff_eq]; exact h3
                    have H3 := Lib.hid h3
                    cases hmr : m2 r.epoch with
                    | none =>
                      have hhas : Maps.has D2 (.int .i64 r.epoch) = false := by rw [(hD2.2 r.epoch).1, hmr]; rfl
                      have HHAS := Lib.hid hhas
                      clear f q1 q2 q3 rows hr hM hlt hv hrl k2 hid hcnt hw2 hC hC2 hC4 hC5 hbq b2 hM2 hside hhead hbef hD2 hH2 hep hkey h3 hmr hhas
                      have e2 : w2.cell? ⟨wr.heap.size, 2, none⟩ = some (.int .i64 r.epoch) := by rw [HBQ.out]; exact cell_blk HSD.out.1 2 _ HC2.out
                      have zb2 : wr.heap.size < w2.heap.size := by rw [HBQ.out]; exact lt_of_block HSD.out.1
                      go_wp2_with (first
                        | (at_lookup; rw [HW2.out]; refine wpList_lookup_own_ok_int _ rfl _ _ 42 rfl 3 3 .i64 law42 Tryd.underlying42 Tryd.underlying3 (zero3 _) bm nm2 D2 rfl HM2.out.map _ _ rfl HKEY.out ?_; intro cL hat hwc; rw [HHAS.out])
                        | (at_mapUpdate; refine wpList_mapUpdate_own _ rfl _ _ _ 42 rfl 3 3 law42 Tryd.underlying42 _ bm nm2 _ rfl HM2.out.map hnm3 _ _ _ rfl rfl HKEY.out _ [] (plainElem_int Tryd.underlying3 HWF.out) ?_; intro w3 hown3 hg3; have k3 := kept_grown hg3; have M3 := HM2.out.setMap hown3 k3; have S3 := HSD.out.step (k3.mono fun _ _ h => .inr (.inr h)) (fun _ _ x => x); have HM3 := Lib.hid M3; have HS3 := Lib.hid S3; clear k3 M3 S3 hown3 hg3))
                      rw [HBQ.out]
                      clear e2 zb2
                      go_loopw [22] (fun i wx => ∃ b : Nat, i = .int .i64 b ∧ b ≤ cf1.length ∧ (∀ t y, t < b → wh1[t]? = some y → y < r.epoch) ∧ Kept NoM w3 wx) (fun i _ => cf1.length - (intOf i).toNat)
                      case atStart => exact ⟨0, rfl, Nat.zero_le _, (fun t y h => by omega), Kept.refl _ _⟩
                      case round =>
                        obtain ⟨b1, rfl, hb, hall, hKX⟩ := hrel
                        have hMX := HM3.out.kept hKX
                        have hSX := HS3.out.kept hKX
                        have e2 : wr.cell? ⟨bq, 2, none⟩ = some (.int .i64 r.epoch) := cell_blk hSX.1 2 _ HC2.out
                        have e5 : wr.cell? ⟨bq, 5, none⟩ = some (.slice la r.log.length lc) := cell_blk hSX.1 5 _ HC5.out
                        have zbq := lt_of_block hSX.1
                        have HKX := Lib.hid hKX
                        by_cases hlt : b1 < cf1.length
                        · have hlti : (b1 : Int) < cf1.length := by omega
                          have hltw : (b1 : Int) < wh1.length := by have := HWL.out; omega
                          obtain ⟨y, hy⟩ := get_at (xs := wh1) (k := b1) (by have := HWL.out; omega)
                          have r10 : RdInts wr NoM (.slice a10 wh1.length c10) wh1 := hMX.wh.rd (fun _ _ x => x)
                          obtain ⟨yb, yoff, hye, _, hyb, y0⟩ := r10.at hy
                          by_cases hlt2 : y < r.epoch
                          · have hall2 : ∀ t y, t < b1 + 1 → wh1[t]? = some y → y < r.epoch := by
                              intro t y' ht hy'
                              by_cases h : t < b1
                              · exact hall t y' h hy'
                              · have : t = b1 := by omega
                                subst this
                                rw [hy] at hy'; cases hy'
                                exact hlt2
                            have HALL := Lib.hid hall2
                            subst hye
                            clear hall hall2 hMX hSX r10 hy hKX hlt
                            go_wp2_with fail
                            go_quiet (fail)
                            go_wp2_with fail
                            go_roundw
                            case rel => exact ⟨b1 + 1, by go_num, by omega, HALL.out, HKX.out.drewN _⟩
                            case measure => simp [intOf]; omega
                          · have f2 := decide_eq_false hlt2
                            subst hye
                            clear hy r10
                            have hpre := HBEF.out H3.out b1 hb hall
                            have hbl : b1 ≤ r.log.length := by
                              have := hpre.length_le
                              rw [List.length_take] at this
                              omega
                            obtain ⟨ii, iz, ty1, ty2, _, ty4, _⟩ := tyItems
                            have r9 : RdItems wr NoM (.slice a9 cf1.length c9) cf1 := hMX.cf.rd (fun _ _ x => x)
                            obtain ⟨sa, sc, hsl, hsrd⟩ := RdS.slice (P := Tryd.prog) 28 45 ii ty1 ty2 ty4 r9 0 b1 (Nat.zero_le _) hb none (.inr ⟨rfl, rfl⟩)
                            simp only [List.drop_zero, Nat.sub_zero] at hsl hsrd
                            have HPX : ∀ wv, Kept NoM wr wv → Calls Tryd.prog 13 #[.slice la r.log.length lc, .slice sa b1 sc] wv fun e w' => e = .returned (.bool true) ∧ ∃ n, w' = wv.drewN n := fun wv kv =>
                              prefix_ok _ _ r.log (cf1.take b1) wv (RdItems.any (hSX.2.2.1.kept kv.of_no)) (RdItems.kept hsrd kv) (fun i x y hx hy => by
                                obtain ⟨t, ht⟩ := hpre
                                rw [← ht, List.getElem?_append_left (List.getElem?_eq_some_iff.1 hy).1, hy] at hx
                                exact (Option.some.inj hx).symm) (by omega)
                            have HPXH := Lib.hid HPX
                            have fb := decide_eq_false (show ¬ (r.log.length : Int) < b1 by omega)
                            have fbn := decide_eq_false (show ¬ r.log.length < b1 by omega)
                            have hbc : (b1 : Int) ≤ c9 := by omega
                            have KQ : ∀ nq, Kept NoM wr (wr.drewN nq) := fun nq => (Kept.refl NoM wr).drewN nq
                            have E5 : ∀ wv, Kept NoM wr wv → wv.cell? ⟨bq, 5, none⟩ = some (.slice la r.log.length lc) := fun wv kv => kv.cell e5 (fun x => x)
                            have HE5 := Lib.hid E5
                            have HKQ := Lib.hid KQ
                            clear hpre hall hMX hSX hsrd r9 HPX hKX KQ E5 hlt hlt2
                            go_wp2_with fail
                            go_quiet (fail)
                            go_wp2_with fail
                            have kq := HKQ.out nq
                            have e5 := HE5.out _ kq
                            generalize wr.drewN nq = w5 at *
                            have zb5 : bq < w5.heap.size := World.block_lt_of_cell? _ _ e5
                            go_quiet ((go_at_call 13; exact quiet_n (HPXH.out _ (kq.drewN _))))
                            go_wp2_with fail
                            go_roundw
                            case rel => exact ⟨kx + 1, nm2 + 1, _, _, by omega, by go_num, HM3.out.kept ((HKX.out.trans kq).drewN _), HD2.out.put _ _, (HHEAD.out H3.out).2, by omega⟩
                            case measure => simp [intOf]; omega
                        · have f1 := decide_eq_false (show ¬ (b1 : Int) < cf1.length by omega)
                          have f1n := decide_eq_false hlt
                          have hpre := HBEF.out H3.out b1 hb hall
                          have hbl : b1 ≤ r.log.length := by
                            have := hpre.length_le
                            rw [List.length_take] at this
                            omega
                          obtain ⟨ii, iz, ty1, ty2, _, ty4, _⟩ := tyItems
                          have r9 : RdItems wr NoM (.slice a9 cf1.length c9) cf1 := hMX.cf.rd (fun _ _ x => x)
                          obtain ⟨sa, sc, hsl, hsrd⟩ := RdS.slice (P := Tryd.prog) 28 45 ii ty1 ty2 ty4 r9 0 b1 (Nat.zero_le _) hb none (.inr ⟨rfl, rfl⟩)
                          simp only [List.drop_zero, Nat.sub_zero] at hsl hsrd
                          have HPX : ∀ wv, Kept NoM wr wv → Calls Tryd.prog 13 #[.slice la r.log.length lc, .slice sa b1 sc] wv fun e w' => e = .returned (.bool true) ∧ ∃ n, w' = wv.drewN n := fun wv kv =>
                            prefix_ok _ _ r.log (cf1.take b1) wv (RdItems.any (hSX.2.2.1.kept kv.of_no)) (RdItems.kept hsrd kv) (fun i x y hx hy => by
                              obtain ⟨t, ht⟩ := hpre
                              rw [← ht, List.getElem?_append_left (List.getElem?_eq_some_iff.1 hy).1, hy] at hx
                              exact (Option.some.inj hx).symm) (by omega)
                          have HPXH := Lib.hid HPX
                          have fb := decide_eq_false (show ¬ (r.log.length : Int) < b1 by omega)
                          have fbn := decide_eq_false (show ¬ r.log.length < b1 by omega)
                          have hbc : (b1 : Int) ≤ c9 := by omega
                          have KQ : ∀ nq, Kept NoM wr (wr.drewN nq) := fun nq => (Kept.refl NoM wr).drewN nq
                          have E5 : ∀ wv, Kept NoM wr wv → wv.cell? ⟨bq, 5, none⟩ = some (.slice la r.log.length lc) := fun wv kv => kv.cell e5 (fun x => x)
                          have HE5 := Lib.hid E5
                          have HKQ := Lib.hid KQ
                          clear hpre hall hMX hSX hsrd r9 HPX hKX KQ E5 hlt
                          go_wp2_with fail
                          go_quiet (fail)
                          go_wp2_with fail
                          have kq := HKQ.out nq
                          have e5 := HE5.out _ kq
                          generalize wr.drewN nq = w5 at *
                          have zb5 : bq < w5.heap.size := World.block_lt_of_cell? _ _ e5
                          go_quiet ((go_at_call 13; exact quiet_n (HPXH.out _ (kq.drewN _))))
                          go_wp2_with fail
                          go_roundw
                          case rel => exact ⟨kx + 1, nm2 + 1, _, _, by omega, by go_num, HM3.out.kept ((HKX.out.trans kq).drewN _), HD2.out.put _ _, (HHEAD.out H3.out).2, by omega⟩
                          case measure => simp [intOf]; omega
                    | some c0 =>
                      have hhas : Maps.has D2 (.int .i64 r.epoch) = true := by rw [(hD2.2 r.epoch).1, hmr]; rfl
                      have hck : c0 = (kx : Int) := (hhead h3).1 c0 hmr
                      have hat0 := (hD2.2 r.epoch).2 c0 hmr
                      rw [hck] at hat0
                      have HHAS := Lib.hid hhas
                      have HAT0 := Lib.hid hat0
                      clear f q1 q2 q3 rows hr hM hlt hv hrl k2 hid hcnt hw2 hC hC2 hC4 hC5 hbq b2 hM2 hside hhead hbef hD2 hH2 hep hkey h3 hmr hhas
                      have e2 : w2.cell? ⟨wr.heap.size, 2, none⟩ = some (.int .i64 r.epoch) := by rw [HBQ.out]; exact cell_blk HSD.out.1 2 _ HC2.out
                      have zb2 : wr.heap.size < w2.heap.size := by rw [HBQ.out]; exact lt_of_block HSD.out.1
                      go_wp2_with (first
                        | (at_lookup; rw [HW2.out]; refine wpList_lookup_own_ok_int _ rfl _ _ 42 rfl 3 3 .i64 law42 Tryd.underlying42 Tryd.underlying3 (zero3 _) bm nm2 D2 rfl HM2.out.map _ _ rfl HKEY.out ?_; intro cL hat hwc; rw [HHAS.out]; have hcc := HAT0.out.symm.trans hat; simp only [DataW.lit.injEq, Lit.int.injEq, true_and] at hcc; subst hcc; clear hat)
                        | (at_mapUpdate; refine wpList_mapUpdate_own _ rfl _ _ _ 42 rfl 3 3 law42 Tryd.underlying42 _ bm nm2 _ rfl HM2.out.map hnm3 _ _ _ rfl rfl HKEY.out _ [] (plainElem_int Tryd.underlying3 HWF.out) ?_; intro w3 hown3 hg3; have k3 := kept_grown hg3; have M3 := HM2.out.setMap hown3 k3; have S3 := HSD.out.step (k3.mono fun _ _ h => .inr (.inr h)) (fun _ _ x => x); have HM3 := Lib.hid M3; have HS3 := Lib.hid S3; clear k3 M3 S3 hown3 hg3))
                      rw [HBQ.out]
                      clear e2 zb2
                      go_loopw [22] (fun i wx => ∃ b : Nat, i = .int .i64 b ∧ b ≤ cf1.length ∧ (∀ t y, t < b → wh1[t]? = some y → y < r.epoch) ∧ Kept NoM w3 wx) (fun i _ => cf1.length - (intOf i).toNat)
                      case atStart => exact ⟨0, rfl, Nat.zero_le _, (fun t y h => by omega), Kept.refl _ _⟩
                      case round =>
                        obtain ⟨b1, rfl, hb, hall, hKX⟩ := hrel
                        have hMX := HM3.out.kept hKX
                        have hSX := HS3.out.kept hKX
                        have e2 : wr.cell? ⟨bq, 2, none⟩ = some (.int .i64 r.epoch) := cell_blk hSX.1 2 _ HC2.out
                        have e5 : wr.cell? ⟨bq, 5, none⟩ = some (.slice la r.log.length lc) := cell_blk hSX.1 5 _ HC5.out
                        have zbq := lt_of_block hSX.1
                        have HKX := Lib.hid hKX
                        by_cases hlt : b1 < cf1.length
                        · have hlti : (b1 : Int) < cf1.length := by omega
                          have hltw : (b1 : Int) < wh1.length := by have := HWL.out; omega
                          obtain ⟨y, hy⟩ := get_at (xs := wh1) (k := b1) (by have := HWL.out; omega)
                          have r10 : RdInts wr NoM (.slice a10 wh1.length c10) wh1 := hMX.wh.rd (fun _ _ x => x)
                          obtain ⟨yb, yoff, hye, _, hyb, y0⟩ := r10.at hy
                          by_cases hlt2 : y < r.epoch
                          · have hall2 : ∀ t y, t < b1 + 1 → wh1[t]? = some y → y < r.epoch := by
                              intro t y' ht hy'
                              by_cases h : t < b1
                              · exact hall t y' h hy'
                              · have : t = b1 := by omega
                                subst this
                                rw [hy] at hy'; cases hy'
                                exact hlt2
                            have HALL := Lib.hid hall2
                            subst hye
                            clear hall hall2 hMX hSX r10 hy hKX hlt
                            go_wp2_with fail
                            go_quiet (fail)
                            go_wp2_with fail
                            go_roundw
                            case rel => exact ⟨b1 + 1, by go_num, by omega, HALL.out, HKX.out.drewN _⟩
                            case measure => simp [intOf]; omega
                          · have f2 := decide_eq_false hlt2
                            subst hye
                            clear hy r10
                            have hpre := HBEF.out H3.out b1 hb hall
                            have hbl : b1 ≤ r.log.length := by
                              have := hpre.length_le
                              rw [List.length_take] at this
                              omega
                            obtain ⟨ii, iz, ty1, ty2, _, ty4, _⟩ := tyItems
                            have r9 : RdItems wr NoM (.slice a9 cf1.length c9) cf1 := hMX.cf.rd (fun _ _ x => x)
                            obtain ⟨sa, sc, hsl, hsrd⟩ := RdS.slice (P := Tryd.prog) 28 45 ii ty1 ty2 ty4 r9 0 b1 (Nat.zero_le _) hb none (.inr ⟨rfl, rfl⟩)
                            simp only [List.drop_zero, Nat.sub_zero] at hsl hsrd
                            have HPX : ∀ wv, Kept NoM wr wv → Calls Tryd.prog 13 #[.slice la r.log.length lc, .slice sa b1 sc] wv fun e w' => e = .returned (.bool true) ∧ ∃ n, w' = wv.drewN n := fun wv kv =>
                              prefix_ok _ _ r.log (cf1.take b1) wv (RdItems.any (hSX.2.2.1.kept kv.of_no)) (RdItems.kept hsrd kv) (fun i x y hx hy => by
                                obtain ⟨t, ht⟩ := hpre
                                rw [← ht, List.getElem?_append_left (List.getElem?_eq_some_iff.1 hy).1, hy] at hx
                                exact (Option.some.inj hx).symm) (by omega)
                            have HPXH := Lib.hid HPX
                            have fb := decide_eq_false (show ¬ (r.log.length : Int) < b1 by omega)
                            have fbn := decide_eq_false (show ¬ r.log.length < b1 by omega)
                            have hbc : (b1 : Int) ≤ c9 := by omega
                            have KQ : ∀ nq, Kept NoM wr (wr.drewN nq) := fun nq => (Kept.refl NoM wr).drewN nq
                            have E5 : ∀ wv, Kept NoM wr wv → wv.cell? ⟨bq, 5, none⟩ = some (.slice la r.log.length lc) := fun wv kv => kv.cell e5 (fun x => x)
                            have HE5 := Lib.hid E5
                            have HKQ := Lib.hid KQ
                            clear hpre hall hMX hSX hsrd r9 HPX hKX KQ E5 hlt hlt2
                            go_wp2_with fail
                            go_quiet (fail)
                            go_wp2_with fail
                            have kq := HKQ.out nq
                            have e5 := HE5.out _ kq
                            generalize wr.drewN nq = w5 at *
                            have zb5 : bq < w5.heap.size := World.block_lt_of_cell? _ _ e5
                            go_quiet ((go_at_call 13; exact quiet_n (HPXH.out _ (kq.drewN _))))
                            go_wp2_with fail
                            go_roundw
                            case rel => exact ⟨kx + 1, nm2 + 1, _, _, by omega, by go_num, HM3.out.kept ((HKX.out.trans kq).drewN _), HD2.out.put _ _, (HHEAD.out H3.out).2, by omega⟩
                            case measure => simp [intOf]; omega
                        · have f1 := decide_eq_false (show ¬ (b1 : Int) < cf1.length by omega)
                          have f1n := decide_eq_false hlt
                          have hpre := HBEF.out H3.out b1 hb hall
                          have hbl : b1 ≤ r.log.length := by
                            have := hpre.length_le
                            rw [List.length_take] at this
                            omega
                          obtain ⟨ii, iz, ty1, ty2, _, ty4, _⟩ := tyItems
                          have r9 : RdItems wr NoM (.slice a9 cf1.length c9) cf1 := hMX.cf.rd (fun _ _ x => x)
                          obtain ⟨sa, sc, hsl, hsrd⟩ := RdS.slice (P := Tryd.prog) 28 45 ii ty1 ty2 ty4 r9 0 b1 (Nat.zero_le _) hb none (.inr ⟨rfl, rfl⟩)
                          simp only [List.drop_zero, Nat.sub_zero] at hsl hsrd
                          have HPX : ∀ wv, Kept NoM wr wv → Calls Tryd.prog 13 #[.slice la r.log.length lc, .slice sa b1 sc] wv fun e w' => e = .returned (.bool true) ∧ ∃ n, w' = wv.drewN n := fun wv kv =>
                            prefix_ok _ _ r.log (cf1.take b1) wv (RdItems.any (hSX.2.2.1.kept kv.of_no)) (RdItems.kept hsrd kv) (fun i x y hx hy => by
                              obtain ⟨t, ht⟩ := hpre
                              rw [← ht, List.getElem?_append_left (List.getElem?_eq_some_iff.1 hy).1, hy] at hx
                              exact (Option.some.inj hx).symm) (by omega)
                          have HPXH := Lib.hid HPX
                          have fb := decide_eq_false (show ¬ (r.log.length : Int) < b1 by omega)
                          have fbn := decide_eq_false (show ¬ r.log.length < b1 by omega)
                          have hbc : (b1 : Int) ≤ c9 := by omega
                          have KQ : ∀ nq, Kept NoM wr (wr.drewN nq) := fun nq => (Kept.refl NoM wr).drewN nq
                          have E5 : ∀ wv, Kept NoM wr wv → wv.cell? ⟨bq, 5, none⟩ = some (.slice la r.log.length lc) := fun wv kv => kv.cell e5 (fun x => x)
                          have HE5 := Lib.hid E5
                          have HKQ := Lib.hid KQ
                          clear hpre hall hMX hSX hsrd r9 HPX hKX KQ E5 hlt
                          go_wp2_with fail
                          go_quiet (fail)
                          go_wp2_with fail
                          have kq := HKQ.out nq
                          have e5 := HE5.out _ kq
                          generalize wr.drewN nq = w5 at *
                          have zb5 : bq < w5.heap.size := World.block_lt_of_cell? _ _ e5
                          go_quiet ((go_at_call 13; exact quiet_n (HPXH.out _ (kq.drewN _))))
                          go_wp2_with fail
                          go_roundw
                          case rel => exact ⟨kx + 1, nm2 + 1, _, _, by omega, by go_num, HM3.out.kept ((HKX.out.trans kq).drewN _), HD2.out.put _ _, (HHEAD.out H3.out).2, by omega⟩
                          case measure => simp [intOf]; omega
                  · have t3 : (r.role != 3) = true := by rw [bne_iff_ne]; exact h3
                    have t3d : ¬ r.role = 3 := h3
                    clear f q1 q2 q3 rows hr hM hlt hv hrl k2 hid hcnt hw2 hC hC2 hC4 hC5 hbq b2 hM2 hside hhead hbef hD2 hH2 hep hkey hll h3
                    go_wp2_with fail
                    go_roundw
                    case rel => exact ⟨kx + 1, nm2, D2, m2, by omega, by go_num, by rw [HW2.out]; exact HM2.out, HD2.out, HH2.out, by omega⟩
                    case measure => simp [intOf]; omega
                · obtain rfl : kx = kk := by omega
                  have fx := decide_eq_false (show ¬ (kx : Int) < kx by omega)
                  have fxn := decide_eq_false (show ¬ kx < kx by omega)
                  have HM7 := Lib.hid hM
                  have HD7 := Lib.hid hD2
                  have HH7 := Lib.hid hH2
                  have hl7 := HL7.out
                  have hs7 : s'.lets.length ≤ 7 * (q + 1) := by omega
                  clear hM hD2 hH2 hlt hl7
                  go_wp2_with fail
                  go_roundw
                  case rel => exact ⟨q + 1, s', cf1, wh1, Oc1, Ow1, nm2, D2, G2, m2, by omega, by go_num, HM7.out, HI.out, HS6.out, HD7.out, HH7.out, hs7, hcl1, by omega⟩
                  case measure => simp [intOf]; omega
        · have HB := Lib.hid hM.san.base
          have fq := decide_eq_false (show ¬ (q : Int) < evs.length by omega)
          have fqn := decide_eq_false hlt
          clear hM hI hS hD hH hlt
          go_wp2_with fail
          refine (sanity_ok _).mono ?_
          rintro e w1 ⟨rfl, k1⟩
          go_wp2_with fail
          go_ret
          exact ⟨rfl, HB.out.trans k1⟩
end Go.Proofs.YtgohploghbimlaaDoor
