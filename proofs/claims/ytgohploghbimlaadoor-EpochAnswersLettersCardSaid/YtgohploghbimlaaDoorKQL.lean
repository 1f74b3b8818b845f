/- Walk: the law of answers to letters. -/
import Derived.Test.YtgohploghbimlaaDoorKQK
set_option linter.unusedVariables false
set_option linter.unusedSimpArgs false
set_option linter.unusedSectionVars false
namespace Go.Proofs.YtgohploghbimlaaDoor
open Go.RowKit
set_option maxHeartbeats 3000000
set_option maxRecDepth 4000

theorem answers_ok (count : Int) (a : Option Addr) (cap : Nat) (evs : List (Int × Int × Int)) (w : World) (hx : AtEvs w a evs) (ht : PowTab w) :
    Calls Tryd.prog 3 #[.int .i64 count, .slice a evs.length cap] w fun e w' => e = .returned (.bool true) ∧ Kept NoM w w' := by
  by_cases h1 : count < 1
  · go_enter Tryd.func3, Tryd.ntmps3
    go_wp2_with fail
    refine (sanity_ok _).mono ?_
    rintro e w1 ⟨rfl, k1⟩
    go_wp2_with fail
    go_ret
    exact ⟨rfl, k1⟩
  by_cases h5 : (5 : Int) < count
  · have t1 : decide (count < 1) = false := decide_eq_false h1
    go_enter Tryd.func3, Tryd.ntmps3
    go_wp2_with fail
    refine (sanity_ok _).mono ?_
    rintro e w1 ⟨rfl, k1⟩
    go_wp2_with fail
    go_ret
    exact ⟨rfl, k1⟩
  by_cases hl : (60 : Int) < evs.length
  · have t1 : decide (count < 1) = false := decide_eq_false h1
    have t2 : decide (5 < count) = false := decide_eq_false h5
    go_enter Tryd.func3, Tryd.ntmps3
    go_wp2_with fail
    refine (sanity_ok _).mono ?_
    rintro e w1 ⟨rfl, k1⟩
    go_wp2_with fail
    go_ret
    exact ⟨rfl, k1⟩
  obtain ⟨n, rfl⟩ := Int.eq_ofNat_of_zero_le (show 0 ≤ count by omega)
  have t1 : decide ((n : Int) < 1) = false := decide_eq_false h1
  have t2 : decide ((5 : Int) < n) = false := decide_eq_false h5
  have t3 : decide ((60 : Int) < evs.length) = false := decide_eq_false hl
  have hn7 : n ≤ 7 := by omega
  have hn1 : 1 ≤ n := by omega
  have he60 : evs.length ≤ 60 := by omega
  have HX := Lib.hid hx
  have HT := Lib.hid ht
  clear hx ht h1 h5 hl
  go_enter Tryd.func3, Tryd.ntmps3
  go_wp2_with fail
  go_loopw [6] (fun i wr => ∃ k : Nat, k ≤ n ∧ i = .int .i64 k ∧ ∃ a cap O, wr.heap[w.heap.size]? = some (.cells #[.slice a k cap, .slice none 0 0] 27 (0, 0)) ∧ OwnS wr O 32 9 ENil (.slice a k cap) (newsF n k) ∧ (∀ g, O = some g → w.heap.size < g) ∧ Kept NoM w wr) (fun i _ => n - (intOf i).toNat)
  case atStart =>
    exact ⟨0, Nat.zero_le _, rfl, none, 0, none, blk_new' _ _ _ rfl, (OwnS.nil _ _ _ _ : OwnS _ none 32 9 ENil (.slice none 0 0) []), (by simp), (Kept.refl NoM w).alloc _⟩
  case round =>
    obtain ⟨k, hk, rfl, a, cap, O, hb, own, hO, hK⟩ := hrel
    by_cases hlt : k < n
    · have hki : (k : Int) < n := by omega
      have zb := lt_of_block hb
      have HB := Lib.hid hb
      have OWN := Lib.hid own
      have HO := Lib.hid hO
      have HK := Lib.hid hK
      have hls : (newsF n k).length = k := newsF_len n k
      have HLS := Lib.hid hls
      clear hb own hO hK hls hlt
      go_wp2_with fail
      refine (new_ok k n (by omega) (by omega) (by omega) (by omega) _).mono ?_
      rintro e w1 ⟨rfl, k1⟩
      go_wp2_with fail
      refine (rnew_ok k n (by omega) (by omega) (by omega) (by omega) _).mono ?_
      rintro e w2 ⟨rfl, k2⟩
      have b7 := k2.blk (blk_new _ _) (fun x => x)
      have zb7 := lt_of_block b7
      have c70 := cell_blk b7 0 _ rfl
      have c71 := cell_blk b7 1 _ rfl
      have c72 := cell_blk b7 2 _ rfl
      have c73 := cell_blk b7 3 _ rfl
      have c74 := cell_blk b7 4 _ rfl
      have c75 := cell_blk b7 5 _ rfl
      have c76 := cell_blk b7 6 _ rfl
      have c77 := cell_blk b7 7 _ rfl
      have c78 := cell_blk b7 8 _ rfl
      have K12 := ((HK.out.trans k1).alloc (.cells #[.int .i64 k, .int .i64 n, .int .i64 0, .int .i64 (-1), .int .i64 1, .slice none 0 0, .int .i64 0, .slice none 0 0, .slice none 0 0] 32 (0, 0))).trans k2
      have OWN2 := Lib.hid (OWN.out.kept ((k1.alloc (.cells #[.int .i64 k, .int .i64 n, .int .i64 0, .int .i64 (-1), .int .i64 1, .slice none 0 0, .int .i64 0, .slice none 0 0, .slice none 0 0] 32 (0, 0))).trans k2) (fun _ _ x => x) (fun _ _ h => h))
      have bW2 := ((k1.alloc (.cells #[.int .i64 k, .int .i64 n, .int .i64 0, .int .i64 (-1), .int .i64 1, .slice none 0 0, .int .i64 0, .slice none 0 0, .slice none 0 0] 32 (0, 0))).trans k2).blk HB.out (fun x => x)
      have HSAME := Lib.hid (rsame_ok ⟨k, n, 0, -1, 1, [], 0, [], []⟩ _ _ _ _ _ _ (w2.alloc (.cells #[.int .i64 k, .int .i64 n, .int .i64 0, .int .i64 (-1), .int .i64 1, .slice none 0 0, .int .i64 0, .slice none 0 0, .slice none 0 0] 32 (0, 0))) (RdItems.nil _ _) (RdBools.nil _ _) (RdInts.nil _ _) (RdItems.nil _ _) (RdBools.nil _ _) (RdInts.nil _ _) (by simp) (by simp) (by simp))
      have BW2 := Lib.hid bW2
      have K12' := Lib.hid K12
      have B7 := Lib.hid b7
      clear b7 K12 bW2 k1 k2
      go_wp2_with fail
      refine HSAME.out.mono ?_
      rintro e w3 ⟨rfl, k3⟩
      have b73 := ((Kept.refl NoM w2).alloc (.cells #[.int .i64 k, .int .i64 n, .int .i64 0, .int .i64 (-1), .int .i64 1, .slice none 0 0, .int .i64 0, .slice none 0 0, .slice none 0 0] 32 (0, 0))).trans k3 |>.blk B7.out (fun x => x)
      have bW3 := ((Kept.refl NoM w2).alloc (.cells #[.int .i64 k, .int .i64 n, .int .i64 0, .int .i64 (-1), .int .i64 1, .slice none 0 0, .int .i64 0, .slice none 0 0, .slice none 0 0] 32 (0, 0))).trans k3 |>.blk BW2.out (fun x => x)
      have OWN3 := OWN2.out.kept (((Kept.refl NoM w2).alloc (.cells #[.int .i64 k, .int .i64 n, .int .i64 0, .int .i64 (-1), .int .i64 1, .slice none 0 0, .int .i64 0, .slice none 0 0, .slice none 0 0] 32 (0, 0))).trans k3) (fun _ _ x => x) (fun _ _ h => h)
      have K3 := Lib.hid ((K12'.out.alloc (.cells #[.int .i64 k, .int .i64 n, .int .i64 0, .int .i64 (-1), .int .i64 1, .slice none 0 0, .int .i64 0, .slice none 0 0, .slice none 0 0] 32 (0, 0))).trans k3)
      have zb3 := lt_of_block b73
      have zW3 := lt_of_block bW3
      have w0 := cell_blk bW3 0 _ rfl
      have d70 := cell_blk b73 0 _ rfl
      have d71 := cell_blk b73 1 _ rfl
      have d72 := cell_blk b73 2 _ rfl
      have d73 := cell_blk b73 3 _ rfl
      have d74 := cell_blk b73 4 _ rfl
      have d75 := cell_blk b73 5 _ rfl
      have d76 := cell_blk b73 6 _ rfl
      have d77 := cell_blk b73 7 _ rfl
      have d78 := cell_blk b73 8 _ rfl
      have hrd : RdS (w3.alloc (.cells #[.int .i64 k, .int .i64 n, .int .i64 0, .int .i64 (-1), .int .i64 1, .slice none 0 0, .int .i64 0, .slice none 0 0, .slice none 0 0] 32 (0, 0))) NoM 9 ENil (.slice (some ⟨w3.heap.size, 0, none⟩) 1 1) [(⟨k, n, 0, -1, 1, [], 0, [], []⟩ : Rep)] := rd_one (x := (⟨k, n, 0, -1, 1, [], 0, [], []⟩ : Rep)) (blk_new _ _) (fun h => h) ⟨rfl, rfl, rfl, rfl⟩ rfl
      have hoo : ∀ o1, OwnS (w3.alloc o1) O 32 9 ENil (.slice a k cap) (newsF n k) := fun o1 => OWN3.kept ((Kept.refl NoM w3).alloc o1) (fun _ _ x => x) (fun _ _ h => h)
      have HRD := Lib.hid hrd
      have HOO := Lib.hid hoo
      have BW3 := Lib.hid bW3
      have hm1 : k + 1 ≤ maxLen := by unfold maxLen; omega
      have hm2 : (k + 1) * 120 ≤ 140737488355328 := by omega
      clear b73 bW3 hrd hoo OWN3 HSAME
      go_wp2_with (at_builtin; go_loud (refine wpList_append_S (M := NoM) rfl (.tmp 53) (.tmp 55) 24 rfl 120 tyReps _ rfl (HOO.out _) _ rfl HRD.out eNil_one k 1 HLS.out rfl hm1 hm2 ?_; intro a1 cap1 w4 O1 own1 k4 n1; obtain ⟨w5, e5, z5⟩ : ∃ w5, w4 = putB w5 w.heap.size #[.slice a k cap, .slice none 0 0] 27 ∧ w.heap.size < w5.heap.size := ⟨w4, putB_self (k4.blk (blk_old BW3.out _) (fun h => by have := HO.out _ h.symm; omega)), by have := k4.size; simp at this; omega⟩; rw [e5]; have E5 := Lib.hid e5; clear e5; have KK4 := Lib.hid k4; have OO1 := Lib.hid own1; have NN1 := Lib.hid n1; clear k4 own1 n1))
      have e5 := E5.out
      have k4 := KK4.out
      have own1 := OO1.out
      rw [e5] at k4 own1
      have kfin : Kept (fun k => k = w.heap.size) (putB w5 w.heap.size #[.slice a k cap, .slice none 0 0] 27) (putB w5 w.heap.size #[.slice a1 (k + 1) cap1, .slice none 0 0] 27) := ((Kept.refl (fun k => k = w.heap.size) w5).putM (b := w.heap.size) rfl _ 27).offB rfl
      have hO1 : ∀ g, O1 = some g → w.heap.size < g := by
        intro g hg
        rcases NN1.out with h | ⟨g', h, hg2⟩
        · exact HO.out g (by rw [← h, hg])
        · rw [hg] at h; cases h; simp at hg2; omega
      have KF : Kept NoM w (putB w5 w.heap.size #[.slice a1 (k + 1) cap1, .slice none 0 0] 27) := ((K3.out.alloc _).trans' k4 (fun i hi h => by have := HO.out _ h.symm; omega)).trans' kfin (fun i hi h => by have h : i = w.heap.size := h; omega)
      have ownF := own1.kept kfin (fun g hg h => by have := hO1 g hg; have h : g = w.heap.size := h; omega) (fun _ _ h => h)
      go_roundw
      case rel => exact ⟨k + 1, by omega, by go_num, a1, cap1, O1, putB_blk _ _ _ _ z5, by rw [newsF_succ]; exact ownF, hO1, KF⟩
      case measure => simp [intOf]; omega
    · obtain rfl : k = n := by omega
      have hf := decide_eq_false (show ¬ (k : Int) < k by omega)
      have hsan : San k w wr w.heap.size ⟨newsF k k, []⟩ := san_new (O := O) (WOk.news hn7) hb own (Nat.le_refl _) (fun g hg => by have := hO g hg; omega) hK
      have HSAN := Lib.hid hsan
      have zb := lt_of_block hb
      clear hsan hb own hO hK hlt
      generalize hWW : w.heap.size = W at *
      have HWW := Lib.hid hWW
      clear hWW
      go_wp2_with fail
      go_loopw [11] (fun i wx => ∃ q : Nat, q ≤ evs.length ∧ i = .int .i64 q ∧ ∃ s, San k w wx W s ∧ s.lets.length ≤ 7 * q) (fun i _ => evs.length - (intOf i).toNat)
      case atStart => exact ⟨0, Nat.zero_le _, rfl, _, HSAN.out, by simp⟩
      case round =>
        obtain ⟨q, hq, rfl, s, hS, hlen⟩ := hrel
        by_cases hlt : q < evs.length
        · obtain ⟨⟨ek, ea, eb⟩, he⟩ := get_at hlt
          obtain ⟨b, off, rfl, x0, x1, x2, x3, x4⟩ := HX.out q _ he
          have hqi : (q : Int) < evs.length := by omega
          have x0 := hS.base.cell x0 (fun x => x)
          have x1 := hS.base.cell x1 (fun x => x)
          have x2 := hS.base.cell x2 (fun x => x)
          have hplay := san_play itoaF hS hn7 (by omega) (kind := ek) (a := ea) (b := eb) rfl (fun _ W1 k1 => itoa_ok HT.out eb x3 x4 W1 k1)
          obtain ⟨OR, OL, hst, hok, hmx, hkw⟩ := hS
          have hl7 := hok.inv.playedLen itoaF ek ea eb
          obtain ⟨s', hs'⟩ : ∃ s', playF itoaF s ek ea eb = s' := ⟨_, rfl⟩
          rw [hs'] at hplay hl7
          have HP := Lib.hid hplay
          clear hplay hst hok hmx hkw he hs' hlt
          go_wp2_with fail
          refine HP.out.mono ?_
          rintro e w3 ⟨rfl, S3⟩
          have HS3 := Lib.hid S3
          clear S3 x0 x1 x2 HP
          go_wp2_with fail
          go_loopw [13] (fun i wx => ∃ j : Nat, j ≤ k ∧ i = .int .i64 j ∧ San k w wx W s') (fun i _ => k - (intOf i).toNat)
          case atStart => exact ⟨0, Nat.zero_le _, rfl, HS3.out⟩
          case round =>
            obtain ⟨j, hj, rfl, hS⟩ := hrel
            have hinv : s'.reps.length = k ∧ ∀ (i : Nat) (r : Rep), s'.reps[i]? = some r → Valid r := by
              obtain ⟨_, _, _, h2, _⟩ := hS
              exact ⟨h2.inv.len, fun i r hr => (h2.inv.rep i r hr).1⟩
            by_cases hlt : j < k
            · obtain ⟨r, hr⟩ := get_at (xs := s'.reps) (k := j) (by omega)
              obtain ⟨g, cap, zW, zg, r0, rows⟩ := hS.reps (by omega)
              obtain ⟨la, lc, va, vc, ma, mc, f, q1, q2, q3⟩ := rows j r hr
              have hji : (j : Int) < k := by omega
              have hrl := hinv.1
              have hv := hinv.2 j r hr
              have c0 : wr.cell? ⟨g, j * 9, none⟩ = some (.int .i64 r.id) := f 0 _ rfl
              have c1 : wr.cell? ⟨g, j * 9 + 1, none⟩ = some (.int .i64 r.count) := f 1 _ rfl
              have c2 : wr.cell? ⟨g, j * 9 + 2, none⟩ = some (.int .i64 r.epoch) := f 2 _ rfl
              have c3 : wr.cell? ⟨g, j * 9 + 3, none⟩ = some (.int .i64 r.voted) := f 3 _ rfl
              have c4 : wr.cell? ⟨g, j * 9 + 4, none⟩ = some (.int .i64 r.role) := f 4 _ rfl
              have c5 : wr.cell? ⟨g, j * 9 + 5, none⟩ = some (.slice la r.log.length lc) := f 5 _ rfl
              have c6 : wr.cell? ⟨g, j * 9 + 6, none⟩ = some (.int .i64 r.conf) := f 6 _ rfl
              have c7 : wr.cell? ⟨g, j * 9 + 7, none⟩ = some (.slice va r.votes.length vc) := f 7 _ rfl
              have c8 : wr.cell? ⟨g, j * 9 + 8, none⟩ = some (.slice ma r.mat.length mc) := f 8 _ rfl
              rw [hrl] at r0
              have HV := Lib.hid (rvalid_ok r _ _ _ _ q1 q2 q3 hv)
              have HS := Lib.hid hS
              clear f q1 q2 q3 rows hr hS hinv hlt hv hrl
              go_wp2_with fail
              refine HV.out.mono ?_
              rintro e w4 ⟨rfl, k4⟩
              have S4 := HS.out.kept k4
              clear k4 c0 c1 c2 c3 c4 c5 c6 c7 c8 r0 zW zg HS HV
              have HS4 := Lib.hid S4
              clear S4
              go_wp2_with fail
              go_roundw
              case rel => exact ⟨j + 1, by omega, by go_num, HS4.out⟩
              case measure => simp [intOf]; omega
            · obtain rfl : j = k := by omega
              have HSE := Lib.hid hS
              clear hS hinv hlt
              go_wp2_with fail
              go_roundw
              case rel => exact ⟨q + 1, by omega, by go_num, s', HSE.out, by omega⟩
              case measure => simp [intOf]; omega
        · obtain rfl : q = evs.length := by omega
          have HSE := Lib.hid hS.base
          clear hS hlt
          go_wp2_with fail
          refine (sanity_ok _).mono ?_
          rintro e w1 ⟨rfl, k1⟩
          go_wp2_with fail
          go_ret
          exact ⟨rfl, HSE.out.trans k1⟩
end Go.Proofs.YtgohploghbimlaaDoor
