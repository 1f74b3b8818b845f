/- Walk: the law of progress. -/
import Derived.Test.YtgohploghbimlaaDoorKQN
import Derived.Test.YtgohploghbimlaaDoorKQI
import Derived.Test.YtgohploghbimlaaDoorKWR
set_option linter.unusedVariables false
set_option linter.unusedSimpArgs false
set_option linter.unusedSectionVars false
namespace Go.Proofs.YtgohploghbimlaaDoor
open Go.RowKit
set_option maxHeartbeats 4000000
set_option maxRecDepth 4000

/-- an event's cells -/
def EEv (c : List Value) (e : Int × Int × Int) : Prop := c = [.int .i64 e.1, .int .i64 e.2.1, .int .i64 e.2.2]
theorem eEv_one : ∀ c x, EEv c x → ∀ u ∈ c, u.oneCell' = true := by
  rintro c x rfl u hu
  simp at hu
  rcases hu with rfl | rfl | rfl <;> rfl
theorem tyEvs : SlTy Tryd.prog 22 39 3 24 := SlTy.of (.agg #[.int .i64 0, .int .i64 0, .int .i64 0]) (by kernel_rfl) (by kernel_rfl) rfl (by omega)
theorem OwnS.evAt {w : World} {O : Option Nat} {a : Option Addr} {n cap : Nat} {xs : List (Int × Int × Int)} (h : OwnS w O 39 3 EEv (.slice a n cap) xs) {i : Nat} {x : Int × Int × Int} (hx : xs[i]? = some x) :
    ∃ b, a = some ⟨b, 0, none⟩ ∧ b < w.heap.size ∧ w.cell? ⟨b, i * 3, none⟩ = some (.int .i64 x.1) ∧ w.cell? ⟨b, i * 3 + 1, none⟩ = some (.int .i64 x.2.1) ∧ w.cell? ⟨b, i * 3 + 2, none⟩ = some (.int .i64 x.2.2) := by
  obtain ⟨g, cap', cur, e1, _, hg, _, _, _, hr⟩ := h.openN (by have := (List.getElem?_eq_some_iff.1 hx).1; omega)
  simp only [Value.slice.injEq] at e1
  obtain ⟨rfl, rfl, rfl⟩ := e1
  obtain ⟨c, rfl, _, hc⟩ := hr i x hx
  exact ⟨g, rfl, lt_of_block hg, cell_blk hg _ _ (hc 0 _ rfl), cell_blk hg _ _ (hc 1 _ rfl), cell_blk hg _ _ (hc 2 _ rfl)⟩
theorem Del.split {it : Int → ByteArray} {s t : WS} {d e : Nat} (h : Del it s d t e) : (t = s ∧ d = e) ∨ (d < s.lets.length ∧ Del it (playF it s 2 0 d) (d + 1) t e) := by
  cases h with
  | refl => exact .inl ⟨rfl, rfl⟩
  | step h k => exact .inr ⟨h, k⟩
/-- the events so far: the timeout, and the first k numbers -/
def evs1 (id : Nat) (l : List Int) (k : Nat) : List (Int × Int × Int) := (1, (id : Int), 0) :: ((l.take k).map fun b => (3, (id : Int), b))
theorem evs1_len (id : Nat) (l : List Int) {k : Nat} (h : k ≤ l.length) : (evs1 id l k).length = k + 1 := by simp [evs1]; omega
theorem evs1_succ (id : Nat) (l : List Int) {k : Nat} {b : Int} (h : l[k]? = some b) : evs1 id l (k + 1) = evs1 id l k ++ [(3, (id : Int), b)] := by
  unfold evs1; rw [List.take_add_one, h]; simp
theorem evs1_end (id : Nat) (l : List Int) : evs1 id l l.length ++ [(1, (id : Int), 0)] = evsF id l := by simp [evs1, evsF]
theorem Stage.start {n id : Nat} {l : List Int} : Stage n id l 0 ⟨newsF n n, []⟩ := by
  refine .inl ⟨rfl, fun i hi => ?_, newsF_len _ _, rfl⟩
  simp [newsF, hi, freR]

theorem confirms_ok (count id : Int) (a : Option Addr) (cap : Nat) (l : List Int) (w : World) (hx : AtInts w .u8 a l) (hb : ∀ b ∈ l, 0 ≤ b ∧ b ≤ 255) (ht : PowTab w) :
    Calls Tryd.prog 5 #[.int .i64 count, .int .i64 id, .slice a l.length cap] w fun e w' => e = .returned (.bool true) ∧ Kept NoM w w' := by
  by_cases h1 : count < 1
  · clear hx hb
    go_enter Tryd.func5, Tryd.ntmps5
    go_wp2_with fail
    refine (sanity_ok _).mono ?_
    rintro e w1 ⟨rfl, k1⟩
    go_wp2_with fail
    go_ret
    exact ⟨rfl, k1⟩
  by_cases h5 : (5 : Int) < count
  · clear hx hb
    have t0 : decide (count < 1) = false := decide_eq_false h1
    clear h1
    go_enter Tryd.func5, Tryd.ntmps5
    go_wp2_with fail
    refine (sanity_ok _).mono ?_
    rintro e w1 ⟨rfl, k1⟩
    go_wp2_with fail
    go_ret
    exact ⟨rfl, k1⟩
  by_cases hi0 : id < 0
  · clear hx hb
    have t0 : decide (count < 1) = false := decide_eq_false h1
    have t1 : decide ((5 : Int) < count) = false := decide_eq_false h5
    clear h1
    clear h5
    go_enter Tryd.func5, Tryd.ntmps5
    go_wp2_with fail
    refine (sanity_ok _).mono ?_
    rintro e w1 ⟨rfl, k1⟩
    go_wp2_with fail
    go_ret
    exact ⟨rfl, k1⟩
  by_cases hi1 : count ≤ id
  · clear hx hb
    have t0 : decide (count < 1) = false := decide_eq_false h1
    have t1 : decide ((5 : Int) < count) = false := decide_eq_false h5
    have t2 : decide (id < 0) = false := decide_eq_false hi0
    clear h1
    clear h5
    clear hi0
    go_enter Tryd.func5, Tryd.ntmps5
    go_wp2_with fail
    refine (sanity_ok _).mono ?_
    rintro e w1 ⟨rfl, k1⟩
    go_wp2_with fail
    go_ret
    exact ⟨rfl, k1⟩
  by_cases hl : (20 : Int) < l.length
  · clear hx hb
    have t0 : decide (count < 1) = false := decide_eq_false h1
    have t1 : decide ((5 : Int) < count) = false := decide_eq_false h5
    have t2 : decide (id < 0) = false := decide_eq_false hi0
    have t3 : decide (count ≤ id) = false := decide_eq_false hi1
    clear h1
    clear h5
    clear hi0
    clear hi1
    go_enter Tryd.func5, Tryd.ntmps5
    go_wp2_with fail
    refine (sanity_ok _).mono ?_
    rintro e w1 ⟨rfl, k1⟩
    go_wp2_with fail
    go_ret
    exact ⟨rfl, k1⟩
  obtain ⟨n, rfl⟩ := Int.eq_ofNat_of_zero_le (show 0 ≤ count by omega)
  obtain ⟨d, rfl⟩ := Int.eq_ofNat_of_zero_le (show 0 ≤ id by omega)
  have t0 : decide ((n : Int) < 1) = false := decide_eq_false h1
  have t1 : decide ((5 : Int) < (n : Int)) = false := decide_eq_false h5
  have t2 : decide ((d : Int) < 0) = false := decide_eq_false hi0
  have t3 : decide ((n : Int) ≤ (d : Int)) = false := decide_eq_false hi1
  have t4 : decide ((20 : Int) < l.length) = false := decide_eq_false hl
  have t3n : decide (n ≤ d) = false := decide_eq_false (by omega)
  have t4n : decide (20 < l.length) = false := decide_eq_false (by omega)
  have hn7 : n ≤ 7 := by omega
  have hn5 : n ≤ 5 := by omega
  have hn1 : 1 ≤ n := by omega
  have hdn : d < n := by omega
  have hl20 : l.length ≤ 20 := by omega
  have HX := Lib.hid hx
  have HT := Lib.hid ht
  have HB := Lib.hid hb
  clear hx ht hb h1 h5 hi0 hi1 hl
  go_enter Tryd.func5, Tryd.ntmps5
  go_wp2_with fail
  go_loopw [8] (fun i wr => ∃ k : Nat, k ≤ n ∧ i = .int .i64 k ∧ ∃ a cap O, wr.heap[w.heap.size]? = some (.cells #[.slice a k cap, .slice none 0 0] 27 (0, 0)) ∧ OwnS wr O 32 9 ENil (.slice a k cap) (newsF n k) ∧ (∀ g, O = some g → w.heap.size < g) ∧ Kept NoM w wr) (fun i _ => n - (intOf i).toNat)
  case atStart =>
    exact ⟨0, Nat.zero_le _, rfl, none, 0, none, blk_new' _ _ _ rfl, (OwnS.nil _ _ _ _ : OwnS _ none 32 9 ENil (.slice none 0 0) []), (by simp), (Kept.refl NoM w).alloc _⟩
  case round =>
    obtain ⟨k, hk, rfl, a2, cap2, O, hb, own, hO, hK⟩ := hrel
    by_cases hlt : k < n
    · have hki : (k : Int) < n := by omega
      have zb := lt_of_block hb
      have HBW := Lib.hid hb
      have OWN := Lib.hid own
      have HO := Lib.hid hO
      have HK := Lib.hid hK
      have hls : (newsF n k).length = k := newsF_len n k
      have HLS := Lib.hid hls
      clear hb own hO hK hls hlt
      go_wp2_with fail
      refine (new_ok k n (by omega) (by omega) (by omega) (by omega) _).mono ?_
      rintro e w1 ⟨rfl, k1⟩
      have b1 := k1.blk HBW.out (fun x => x)
      have c0 := cell_blk b1 0 _ rfl
      have z1 := lt_of_block b1
      have B1 := Lib.hid b1
      have OWN1 := Lib.hid (OWN.out.kept k1 (fun _ _ x => x) (fun _ _ h => h))
      have hrd : RdS ((w1.alloc (.cells #[.int .i64 k, .int .i64 n, .int .i64 0, .int .i64 (-1), .int .i64 1, .slice none 0 0, .int .i64 0, .slice none 0 0, .slice none 0 0] 32)).alloc (.cells #[.int .i64 k, .int .i64 n, .int .i64 0, .int .i64 (-1), .int .i64 1, .slice none 0 0, .int .i64 0, .slice none 0 0, .slice none 0 0] 32 (0, 0))) NoM 9 ENil (.slice (some ⟨w1.heap.size + 1, 0, none⟩) 1 1) [(⟨k, n, 0, -1, 1, [], 0, [], []⟩ : Rep)] := rd_one (x := (⟨k, n, 0, -1, 1, [], 0, [], []⟩ : Rep)) (blk_new' _ _ _ (by simp)) (fun h => h) ⟨rfl, rfl, rfl, rfl⟩ rfl
      have hoo : ∀ o1 o2, OwnS ((w1.alloc o1).alloc o2) O 32 9 ENil (.slice a2 k cap2) (newsF n k) := fun o1 o2 => OWN1.out.kept (((Kept.refl NoM w1).alloc o1).alloc o2) (fun _ _ x => x) (fun _ _ h => h)
      have HRD := Lib.hid hrd
      have HOO := Lib.hid hoo
      have hm1 : k + 1 ≤ maxLen := by unfold maxLen; omega
      have hm2 : (k + 1) * 120 ≤ 140737488355328 := by omega
      clear b1 hrd hoo
      go_wp2_with (at_builtin; go_loud (refine wpList_append_S (M := NoM) rfl (.tmp 56) (.tmp 58) 24 rfl 120 tyReps _ rfl (HOO.out _ _) _ rfl HRD.out eNil_one k 1 HLS.out rfl hm1 hm2 ?_; intro a1 cap1 w4 O1 own1 k4 n1; obtain ⟨w5, e5, z5⟩ : ∃ w5, w4 = putB w5 w.heap.size #[.slice a2 k cap2, .slice none 0 0] 27 ∧ w.heap.size < w5.heap.size := ⟨w4, putB_self (k4.blk (blk_old (blk_old B1.out _) _) (fun h => by have := HO.out _ h.symm; omega)), by have := k4.size; simp at this; omega⟩; rw [e5]; have E5 := Lib.hid e5; clear e5; have KK4 := Lib.hid k4; have OO1 := Lib.hid own1; have NN1 := Lib.hid n1; clear k4 own1 n1))
      have e5 := E5.out
      have k4 := KK4.out
      have own1 := OO1.out
      rw [e5] at k4 own1
      have kfin : Kept (fun k => k = w.heap.size) (putB w5 w.heap.size #[.slice a2 k cap2, .slice none 0 0] 27) (putB w5 w.heap.size #[.slice a1 (k + 1) cap1, .slice none 0 0] 27) := ((Kept.refl (fun k => k = w.heap.size) w5).putM (b := w.heap.size) rfl _ 27).offB rfl
      have hO1 : ∀ g, O1 = some g → w.heap.size < g := by
        intro g hg
        rcases NN1.out with h | ⟨g', h, hg2⟩
        · exact HO.out g (by rw [← h, hg])
        · rw [hg] at h; cases h; simp at hg2; omega
      have KF : Kept NoM w (putB w5 w.heap.size #[.slice a1 (k + 1) cap1, .slice none 0 0] 27) := ((((HK.out.trans k1).alloc _).alloc _).trans' k4 (fun i hi h => by have := HO.out _ h.symm; omega)).trans' kfin (fun i hi h => by have h : i = w.heap.size := h; omega)
      have ownF := own1.kept kfin (fun g hg h => by have := hO1 g hg; have h : g = w.heap.size := h; omega) (fun _ _ h => h)
      go_roundw
      case rel => exact ⟨k + 1, by omega, by go_num, a1, cap1, O1, putB_blk _ _ _ _ z5, by rw [newsF_succ]; exact ownF, hO1, KF⟩
      case measure => simp [intOf]; omega
    · obtain rfl : k = n := by omega
      have hf := decide_eq_false (show ¬ (k : Int) < k by omega)
      have hsan : San k w wr w.heap.size ⟨newsF k k, []⟩ := san_new (O := O) (WOk.news hn7) hb own (Nat.le_refl _) (fun g hg => by have := hO g hg; omega) hK
      have HSAN := Lib.hid hsan
      have zb := lt_of_block hb
      clear hsan hb own hO hK hlt
      generalize hWW : w.heap.size = W at *
      have HWW := Lib.hid hWW
      clear hWW
      go_wp2_with fail
      obtain ⟨wo, hwo⟩ : ∃ wo, wo = wr := ⟨_, rfl⟩
      subst hwo
      obtain ⟨W1, hW1⟩ : ∃ W1, (wo.alloc (.cells #[.int .i64 1, .int .i64 d, .int .i64 0] 39 (0, 0))) = W1 := ⟨_, rfl⟩
      have hs1 : San k w W1 W ⟨newsF k k, []⟩ := by rw [← hW1]; exact HSAN.out.kept ((Kept.refl NoM wo).alloc _)
      have ho1 : OwnS W1 (some wo.heap.size) 39 3 EEv (.slice (some ⟨wo.heap.size, 0, none⟩) 1 1) (evs1 d l 0) := by
        rw [← hW1]
        refine OwnS.closeN (blk_new' _ _ _ rfl) 1 (by simp [evs1]) (Nat.le_refl _) (by unfold maxLen; omega) rfl ?_
        intro i x hx
        match i with
        | 0 =>
          simp only [evs1, List.getElem?_cons_zero, Option.some.injEq] at hx
          subst hx
          exact ⟨_, rfl, rfl, fun j u hu => by simpa using hu⟩
        | i + 1 => simp [evs1] at hx
      have HS1 := Lib.hid hs1
      have HO1 := Lib.hid ho1
      have hzz : W < wo.heap.size := zb
      rw [hW1]
      clear hs1 ho1
      have HW1 := Lib.hid hW1
      clear hW1
      have hMX : ∀ (g : Nat), ¬ some g = none := by simp
      go_loopw [11, 12] (fun v i wx => ∃ q : Nat, q ≤ l.length ∧ i = .int .i64 q ∧ ∃ a cap O, v = .slice a (q + 1) cap ∧ OwnS wx O 39 3 EEv (.slice a (q + 1) cap) (evs1 d l q) ∧ (∀ g, O = some g → wo.heap.size ≤ g) ∧ Kept NoM wo wx) (fun _ i _ => l.length - (intOf i).toNat)
      case atStart => exact ⟨0, Nat.zero_le _, rfl, _, 1, _, rfl, HO1.out, (by simp), by rw [← HW1.out]; exact (Kept.refl NoM wo).alloc _⟩
      case round =>
        obtain ⟨q, hq, rfl, a3, cap3, O3, rfl, own3, hO3, hK3⟩ := hrel
        by_cases hlt : q < l.length
        · obtain ⟨b, hbq⟩ := get_at hlt
          obtain ⟨xb, xoff, rfl, x0⟩ := HX.out q b hbq
          have hqi : (q : Int) < l.length := by omega
          have x0 := hK3.cell (HSAN.out.base.cell x0 (fun x => x)) (fun x => x)
          have hbb := HB.out b (List.mem_of_getElem? hbq)
          have hb0 := hbb.1
          have hb1 := hbb.2
          have zx := World.block_lt_of_cell? _ _ x0
          have hls : (evs1 d l q).length = q + 1 := evs1_len d l hq
          have HLS := Lib.hid hls
          have HES := Lib.hid (evs1_succ d l hbq)
          have HO := Lib.hid hO3
          have HK := Lib.hid hK3
          have hrd : RdS (wr.alloc (.cells #[.int .i64 3, .int .i64 d, .int .i64 b] 39 (0, 0))) NoM 3 EEv (.slice (some ⟨wr.heap.size, 0, none⟩) 1 1) [((3, (d : Int), b) : Int × Int × Int)] := rd_one (x := ((3, (d : Int), b) : Int × Int × Int)) (blk_new _ _) (fun h => h) rfl rfl
          have hoo := own3.kept ((Kept.refl NoM wr).alloc (.cells #[.int .i64 3, .int .i64 d, .int .i64 b] 39 (0, 0))) (fun _ _ x => x) (fun _ _ h => h)
          have HRD := Lib.hid hrd
          have HOO := Lib.hid hoo
          have hm1 : (q + 1) + 1 ≤ maxLen := by unfold maxLen; omega
          have hm2 : ((q + 1) + 1) * 24 ≤ 140737488355328 := by omega
          clear own3 hrd hoo hls hbb hbq hO3 hK3 hlt
          go_wp2_with (at_builtin; go_loud (refine wpList_append_S (M := NoM) rfl (.tmp 70) (.tmp 78) 22 rfl 24 tyEvs _ rfl HOO.out _ rfl HRD.out eEv_one (q + 1) 1 HLS.out rfl hm1 hm2 ?_; intro a4 cap4 w4 O4 own4 k4 n4; have KK4 := Lib.hid k4; have OO4 := Lib.hid own4; have NN4 := Lib.hid n4; clear k4 own4 n4))
          have hO4 : ∀ g, O4 = some g → wo.heap.size ≤ g := by
            intro g hg
            rcases NN4.out with h | ⟨g', h, hg2⟩
            · exact HO.out g (by rw [← h, hg])
            · rw [hg] at h; cases h
              have := HK.out.size
              simp at hg2
              omega
          have KF : Kept NoM wo w4 := (HK.out.alloc _).trans' KK4.out (fun i hi h => by have := HO.out _ h.symm; omega)
          go_roundw
          case rel => exact ⟨q + 1, by omega, by go_num, a4, cap4, O4, rfl, by rw [HES.out]; exact OO4.out, hO4, KF⟩
          case measure => simp [intOf]; omega
        · obtain rfl : q = l.length := by omega
          have hls : (evs1 d l l.length).length = l.length + 1 := evs1_len d l (Nat.le_refl _)
          have HLS := Lib.hid hls
          have HO := Lib.hid hO3
          have HK := Lib.hid hK3
          have hrd : RdS (wr.alloc (.cells #[.int .i64 1, .int .i64 d, .int .i64 0] 39 (0, 0))) NoM 3 EEv (.slice (some ⟨wr.heap.size, 0, none⟩) 1 1) [((1, (d : Int), 0) : Int × Int × Int)] := rd_one (x := ((1, (d : Int), 0) : Int × Int × Int)) (blk_new _ _) (fun h => h) rfl rfl
          have hoo := own3.kept ((Kept.refl NoM wr).alloc (.cells #[.int .i64 1, .int .i64 d, .int .i64 0] 39 (0, 0))) (fun _ _ x => x) (fun _ _ h => h)
          have HRD := Lib.hid hrd
          have HOO := Lib.hid hoo
          have hm1 : (l.length + 1) + 1 ≤ maxLen := by unfold maxLen; omega
          have hm2 : ((l.length + 1) + 1) * 24 ≤ 140737488355328 := by omega
          clear own3 hrd hoo hls hO3 hK3 hlt
          go_wp2_with (at_builtin; go_loud (refine wpList_append_S (M := NoM) rfl (.tmp 80) (.tmp 83) 22 rfl 24 tyEvs _ rfl HOO.out _ rfl HRD.out eEv_one (l.length + 1) 1 HLS.out rfl hm1 hm2 ?_; intro a4 cap4 w4 O4 own4 k4 n4; have KK4 := Lib.hid k4; have OO4 := Lib.hid own4; have NN4 := Lib.hid n4; clear k4 own4 n4))
          have hO4 : ∀ g, O4 = some g → wo.heap.size ≤ g := by
            intro g hg
            rcases NN4.out with h | ⟨g', h, hg2⟩
            · exact HO.out g (by rw [← h, hg])
            · rw [hg] at h; cases h
              have := HK.out.size
              simp at hg2
              omega
          have KF : Kept NoM wo w4 := (HK.out.alloc _).trans' KK4.out (fun i hi h => by have := HO.out _ h.symm; omega)
          have ownE : OwnS w4 O4 39 3 EEv (.slice a4 (l.length + 1 + 1) cap4) (evsF d l) := by rw [← evs1_end]; exact OO4.out
          have hsf : SanF (fun i => some i = O4) k w w4 W ⟨newsF k k, []⟩ := HSAN.out.withF KF (fun i h => ⟨hO4 i h.symm, ownE.lt i h.symm⟩)
          have HSF := Lib.hid hsf
          have HOE := Lib.hid ownE
          have hel : (evsF d l).length = l.length + 1 + 1 := evsF_len d l
          clear hsf ownE hO4 KF KK4 OO4 NN4 HOO HRD HO HK HLS
          go_loopw [13, 14] (fun dn i wx => ∃ q s, q ≤ l.length + 2 ∧ i = .int .i64 q ∧ dn = .int .i64 s.lets.length ∧ Stage k d l q s ∧ s.lets.length ≤ 20 * q ∧ SanF (fun i => some i = O4) k w wx W s ∧ OwnS wx O4 39 3 EEv (.slice a4 (l.length + 1 + 1) cap4) (evsF d l)) (fun _ i _ => l.length + 2 - (intOf i).toNat)
          case atStart => exact ⟨0, _, Nat.zero_le _, rfl, rfl, Stage.start, Nat.le_refl _, HSF.out, HOE.out⟩
          case round =>
            obtain ⟨q, s, hq, rfl, rfl, hst, hle, hsf, hoe⟩ := hrel
            by_cases hlt : q < l.length + 2
            · obtain ⟨⟨ek, ea, eb⟩, he⟩ := get_at (xs := evsF d l) (k := q) (by rw [hel]; exact hlt)
              obtain ⟨eb', rfl, zeb, x0, x1, x2⟩ := hoe.evAt he
              have hqi : (q : Int) < (l.length : Int) + 1 + 1 := by omega
              have hqn : q < l.length + 1 + 1 := by omega
              obtain ⟨t, e2, hdel, het, hst2, he2, hrole⟩ := stage_step hn1 hn5 hdn hl20 (fun b hb => HB.out b hb) hst he
              have hbr : ek = 3 → -9223372036854775808 ≤ eb ∧ eb ≤ 9223372036854775807 := by
                intro h3
                subst h3
                cases q with
                | zero => cases he
                | succ q =>
                  rw [evsF_succ] at he
                  split at he
                  · next hh =>
                    simp only [Option.some.injEq, Prod.mk.injEq] at he
                    have := HB.out _ (List.getElem_mem hh)
                    omega
                  · split at he <;> cases he
              have hplay := sanF_play itoaF hsf hn7 (by omega) (kind := ek) (a := ea) (b := eb) rfl (fun h3 W1 k1 => itoa_ok HT.out eb (hbr h3).1 (hbr h3).2 W1 k1)
              obtain ⟨s1, hs1⟩ : ∃ s1, playF itoaF s ek ea eb = s1 := ⟨_, rfl⟩
              rw [hs1] at hplay hdel
              obtain ⟨d0, hd0⟩ : ∃ d0, s.lets.length = d0 := ⟨_, rfl⟩
              rw [hd0] at hdel he2 hle ⊢
              have HP := Lib.hid hplay
              have HDEL := Lib.hid hdel
              have HET := Lib.hid het
              have HST2 := Lib.hid hst2
              have HROLE := Lib.hid hrole
              have HOE2 := Lib.hid hoe
              clear hplay hdel het hst2 hrole hbr hs1 hst hsf hoe he hd0 hlt HOE HSF
              go_wp2_with fail
              refine HP.out.mono ?_
              rintro e w5 ⟨rfl, S5, K5⟩
              have O5 := HOE2.out.kept K5 (fun g hg h => h hg.symm) (fun _ _ h => h)
              have HS5 := Lib.hid S5
              have HO5 := Lib.hid O5
              clear S5 K5 O5 x0 x1 x2 zeb HP HOE2
              go_wp2_with fail
              have hgr := HDEL.out.grows
              have hse := HET.out
              have hle2 := HDEL.out.le
              have he420 : e2 ≤ 460 := by omega
              go_loopw [13, 16] (fun dn rr wx => ∃ (dd r2 : Nat) (cur : WS), dn = .int .i64 dd ∧ rr = .int .i64 r2 ∧ r2 + d0 = dd ∧ dd ≤ e2 ∧ SanF (fun i => some i = O4) k w wx W cur ∧ Del itoaF cur dd t e2 ∧ OwnS wx O4 39 3 EEv (.slice (some ⟨eb', 0, none⟩) (l.length + 1 + 1) cap4) (evsF d l)) (fun dn _ _ => e2 - (intOf dn).toNat)
              case atStart => exact ⟨d0, 0, s1, rfl, rfl, by omega, hle2, HS5.out, HDEL.out, HO5.out⟩
              case round =>
                obtain ⟨dd, r2, cur, rfl, rfl, hrd, hde, hsf, hdl, hoe⟩ := hrel
                obtain ⟨lla, llc, zWl, cW1, _⟩ := hsf.san.lets
                have hcl : cur.reps.length = k := by
                  obtain ⟨_, _, _, hok, _⟩ := hsf
                  exact hok.inv.len
                have hcg := hdl.grows
                have hr20 : r2 < 2000 := by omega
                have hr20i : (r2 : Int) < 2000 := by omega
                rcases hdl.split with ⟨hsp1, hsp2⟩ | ⟨hlt2, hdl2⟩
                · subst hsp1
                  subst hsp2
                  obtain ⟨r, hr, hr3⟩ := HROLE.out
                  obtain ⟨g, cap, _, zg, cW0, rows⟩ := hsf.san.reps (by omega)
                  obtain ⟨la, lc, va, vc, ma, mc, f, _, _, _⟩ := rows d r hr
                  have c4 : wr.cell? ⟨g, d * 9 + 4, none⟩ = some (.int .i64 r.role) := f 4 _ rfl
                  rw [hr3] at c4
                  rw [hcl] at cW0
                  rw [← hse] at cW1
                  have fd := decide_eq_false (show ¬ (dd : Int) < dd by omega)
                  have fdn := decide_eq_false (show ¬ dd < dd by omega)
                  have HSX := Lib.hid hsf
                  have HOX := Lib.hid hoe
                  clear f rows hr hr3 hsf hdl hoe HS5 HO5
                  go_wp2_with fail
                  go_roundw
                  case rel => exact ⟨q + 1, _, by omega, by go_num, by rw [← hse], HST2.out, by omega, HSX.out, HOX.out⟩
                  case measure => simp [intOf]; omega
                · have hplay := sanF_play itoaF hsf hn7 (by omega) (kind := 2) (a := 0) (b := dd) rfl (fun h => by cases h)
                  obtain ⟨cur2, hcur2⟩ : ∃ s1, playF itoaF cur 2 0 dd = s1 := ⟨_, rfl⟩
                  rw [hcur2] at hplay hdl2
                  have hlt2i : (dd : Int) < (cur.lets.length : Int) := by omega
                  have hle3 := hdl2.le
                  have HP := Lib.hid hplay
                  have HDL2 := Lib.hid hdl2
                  have HOX := Lib.hid hoe
                  clear hplay hdl2 hdl hsf hoe hcur2 HS5 HO5 hcl
                  go_wp2_with fail
                  refine HP.out.mono ?_
                  rintro e w7 ⟨rfl, S7, K7⟩
                  have O7 := HOX.out.kept K7 (fun g hg h => h hg.symm) (fun _ _ h => h)
                  have HS7 := Lib.hid S7
                  have HO7 := Lib.hid O7
                  clear S7 K7 O7 HP HOX cW1 zWl
                  go_wp2_with fail
                  go_roundw
                  case rel => exact ⟨dd + 1, r2 + 1, cur2, by go_num, by go_num, by omega, hle3, HS7.out, HDL2.out, HO7.out⟩
                  case measure => simp [intOf]; omega
            · have hq2 : q = l.length + 2 := by omega
              have HEND := Lib.hid (stage_end (by rw [← hq2]; exact hst))
              have HS5 := Lib.hid hsf.san
              have fq := decide_eq_false (show ¬ (q : Int) < (l.length : Int) + 1 + 1 by omega)
              have fqn := decide_eq_false (show ¬ q < l.length + 1 + 1 by omega)
              clear hq2 hq
              clear hst hsf hoe hlt hle HSF HOE
              go_wp2_with fail
              go_loopw [18] (fun i wx => ∃ kk : Nat, kk ≤ k ∧ i = .int .i64 kk ∧ San k w wx W s) (fun i _ => k - (intOf i).toNat)
              case atStart => exact ⟨0, Nat.zero_le _, rfl, HS5.out⟩
              case round =>
                obtain ⟨kk, hkk, rfl, hS⟩ := hrel
                by_cases hlt : kk < k
                · obtain ⟨r, hr, hcf⟩ := HEND.out.2 kk hlt
                  have hrl := HEND.out.1
                  have hinv : ∀ (i : Nat) (r : Rep), s.reps[i]? = some r → Valid r := by
                    obtain ⟨_, _, _, h2, _⟩ := hS
                    exact fun i r hr => (h2.inv.rep i r hr).1
                  have hv := hinv kk r hr
                  obtain ⟨g, cap, zW, zg, r0, rows⟩ := hS.reps (by omega)
                  obtain ⟨la, lc, va, vc, ma, mc, f, q1, q2, q3⟩ := rows kk r hr
                  have hji : (kk : Int) < k := by omega
                  have c0 : wr.cell? ⟨g, kk * 9, none⟩ = some (.int .i64 r.id) := f 0 _ rfl
                  have c1 : wr.cell? ⟨g, kk * 9 + 1, none⟩ = some (.int .i64 r.count) := f 1 _ rfl
                  have c2 : wr.cell? ⟨g, kk * 9 + 2, none⟩ = some (.int .i64 r.epoch) := f 2 _ rfl
                  have c3 : wr.cell? ⟨g, kk * 9 + 3, none⟩ = some (.int .i64 r.voted) := f 3 _ rfl
                  have c4 : wr.cell? ⟨g, kk * 9 + 4, none⟩ = some (.int .i64 r.role) := f 4 _ rfl
                  have c5 : wr.cell? ⟨g, kk * 9 + 5, none⟩ = some (.slice la r.log.length lc) := f 5 _ rfl
                  have c6 : wr.cell? ⟨g, kk * 9 + 6, none⟩ = some (.int .i64 r.conf) := f 6 _ rfl
                  have c7 : wr.cell? ⟨g, kk * 9 + 7, none⟩ = some (.slice va r.votes.length vc) := f 7 _ rfl
                  have c8 : wr.cell? ⟨g, kk * 9 + 8, none⟩ = some (.slice ma r.mat.length mc) := f 8 _ rfl
                  rw [hrl] at r0
                  have hc0 := confirmed_ok r _ _ _ _ q1 q2 q3 hv.cf0 hv.cf1 (by have := hv.len; omega)
                  rw [hcf] at hc0
                  have HC := Lib.hid hc0
                  have HS := Lib.hid hS
                  clear f q1 q2 q3 rows hr hS hinv hlt hv hrl hc0 hcf
                  go_wp2_with fail
                  refine HC.out.mono ?_
                  rintro e w6 ⟨v6, O6, rfl, own6, _, k6⟩
                  obtain ⟨a6, cap6, rfl, hc6, _, _, _⟩ := own6.shape
                  have S6 := HS.out.kept k6
                  have HS6 := Lib.hid S6
                  have HO6 := Lib.hid own6
                  have HL6 := Lib.hid hc6
                  rw [List.length_map]
                  clear S6 own6 k6 hc6 HC HS c0 c1 c2 c3 c4 c5 c6 c7 c8 r0 zW zg
                  obtain ⟨wk, hwk⟩ : ∃ wk, wk = wr := ⟨_, rfl⟩
                  subst hwk
                  go_wp2_with fail
                  go_loopw [20] (fun i wx => ∃ j : Nat, j ≤ l.length ∧ i = .int .i64 j ∧ Kept NoM w6 wx) (fun i _ => l.length - (intOf i).toNat)
                  case atStart => exact ⟨0, Nat.zero_le _, rfl, Kept.refl _ _⟩
                  case round =>
                    obtain ⟨j, hj, rfl, hKX⟩ := hrel
                    by_cases hltj : j < l.length
                    · obtain ⟨b, hbj⟩ := get_at hltj
                      obtain ⟨xb, xoff, rfl, x0⟩ := HX.out j b hbj
                      have hbb := HB.out b (List.mem_of_getElem? hbj)
                      have hji2 : (j : Int) < l.length := by omega
                      have hmj : (l.map itoaF)[j]? = some (itoaF b) := by rw [List.getElem?_map, hbj]; rfl
                      obtain ⟨g6, kc6, cur6, e6, _, hg6, _, _, _, hr6⟩ := HO6.out.openN (by rw [List.length_map]; omega)
                      simp only [Value.slice.injEq] at e6
                      obtain ⟨rfl, _, rfl⟩ := e6
                      obtain ⟨cs6, hcs6, _, hcell6⟩ := hr6 j _ hmj
                      have t0 : w6.cell? ⟨g6, j, none⟩ = some (.string (itoaF b)) := by
                        have := cell_blk hg6 _ _ (hcell6 0 (.string (itoaF b)) (by rw [show cs6 = _ from hcs6]; rfl))
                        simpa using this
                      have x1 := (HS6.out.base).cell x0 (fun x => x)
                      have KS : ∀ wv, Kept NoM w6 wv → wv.cell? ⟨g6, j, none⟩ = some (.string (itoaF b)) ∧ wv.cell? ⟨xb, xoff + j, none⟩ = some (.int .u8 b) := fun wv kv => ⟨kv.cell t0 (fun x => x), kv.cell x1 (fun x => x)⟩
                      have zg6 := lt_of_block hg6
                      have zxb := World.block_lt_of_cell? _ _ x1
                      have HKS := Lib.hid KS
                      have HKX := Lib.hid hKX
                      have HKW := Lib.hid (HS6.out.base.trans hKX)
                      have hb0 := hbb.1
                      have hb1 := hbb.2
                      have hwb : IntKind.i64.wrap b = b := by rw [IntKind.wrap_i64]; omega
                      have HWB := Lib.hid hwb
                      have E1 := hKX
                      have t1 := (KS _ hKX).1
                      have x2 := (KS _ hKX).2
                      clear hwb KS hbb hbj x0 x1 t0 hmj hr6 hg6 hcell6 hcs6 hltj
                      go_wp2_with fail
                      go_region_held3 (fun w' => w'.cell? ⟨g6, j, none⟩ = some (.string (itoaF b)) ∧ w'.cell? ⟨xb, xoff + j, none⟩ = some (.int .u8 b)) (first | exact HKS.out _ E1.drew | exact HKS.out _ k2) ((go_at_call 16; rw [HWB.out]; refine (itoa_ok HT.out b (by omega) (by omega) _ (HKW.out.drew)).mono ?_; rintro e w2 ⟨rfl, kj⟩; have k2 := E1.drew.trans kj))
                      all_goals go_wp2_with fail
                      all_goals go_roundw
                      case rel => exact ⟨j + 1, by omega, by go_num, k2⟩
                      case measure => simp [intOf]; omega
                    · obtain rfl : j = l.length := by omega
                      have HKX := Lib.hid hKX
                      have fj := decide_eq_false (show ¬ (l.length : Int) < l.length by omega)
                      have fjn := decide_eq_false (show ¬ l.length < l.length by omega)
                      clear hKX hltj
                      go_wp2_with fail
                      go_roundw
                      case rel => exact ⟨kk + 1, by omega, by go_num, HS6.out.kept HKX.out⟩
                      case measure => simp [intOf]; omega
                · obtain rfl : kk = k := by omega
                  have HSB := Lib.hid hS.base
                  have fk := decide_eq_false (show ¬ (kk : Int) < kk by omega)
                  have fkn := decide_eq_false (show ¬ kk < kk by omega)
                  clear hS hlt
                  go_wp2_with fail
                  refine (sanity_ok _).mono ?_
                  rintro e w1 ⟨rfl, k1⟩
                  go_wp2_with fail
                  go_ret
                  exact ⟨rfl, HSB.out.trans k1⟩
end Go.Proofs.YtgohploghbimlaaDoor
