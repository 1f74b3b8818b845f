/- Walk: append, the way that appends. -/
import Derived.Test.YtgohploghbimlaaDoorKWS
import Derived.Test.YtgohploghbimlaaDoorKWF
import Derived.Test.YtgohploghbimlaaDoorKPlain
import Derived.BigQuiet
import Derived.Deep.RegionHeld3
import Derived.Deep.CutRange
import Derived.Deep.DeepCutAuto
set_option linter.unusedVariables false
set_option linter.unusedSimpArgs false
set_option linter.unusedSectionVars false
namespace Go.Proofs.YtgohploghbimlaaDoor
open Go.RowKit
set_option maxHeartbeats 3000000
set_option maxRecDepth 4000

theorem sameF_at : ∀ (l i : List Item) (s : Nat), s < sameF l i → ∃ x y, l[s]? = some x ∧ i[s]? = some y ∧ x.ep = y.ep := by
  intro l
  induction l with
  | nil => intro i s h; simp [sameF] at h
  | cons x l ih =>
    intro i s h
    cases i with
    | nil => simp [sameF] at h
    | cons y i =>
      simp only [sameF] at h
      split at h
      · next he =>
        cases s with
        | zero => exact ⟨x, y, rfl, rfl, he⟩
        | succ s => exact ih i s (by omega)
      · omega
theorem sameF_stop : ∀ (l i : List Item), i.length ≤ sameF l i ∨ l.length ≤ sameF l i ∨ ∃ x y, l[sameF l i]? = some x ∧ i[sameF l i]? = some y ∧ x.ep ≠ y.ep := by
  intro l
  induction l with
  | nil => intro i; right; left; simp [sameF]
  | cons x l ih =>
    intro i
    cases i with
    | nil => left; simp [sameF]
    | cons y i =>
      simp only [sameF]
      split
      · next he =>
        rcases ih i with h | h | ⟨a, b, h1, h2, h3⟩
        · left; simp; omega
        · right; left; simp; omega
        · right; right; exact ⟨a, b, by simpa using h1, by simpa using h2, h3⟩
      · next he => right; right; exact ⟨x, y, rfl, rfl, he⟩

theorem run_slice_from {P : Program} (T e : TypeId) (i : TypeInfo) (hT : P.underlying T = some (.slice e)) (hin : P.info? e = some i) (a : Option Addr) (n cap lo : Nat) (h1 : lo ≤ n) (h2 : n ≤ cap) (wx : World) :
    (Instr.slice T (.slice a n cap) (some (.int .i64 lo)) none none).run P wx = .ok (.slice (if cap = lo then a else a.map (·.add (lo * i.size))) (n - lo) (cap - lo)) wx := by
  have g3 : (0 : Int) ≤ lo := by omega
  have g4 : (lo : Int) ≤ n := by omega
  simp [Instr.slice, Instr.sliceBounds, Instr.sliceBound, asIntOf, run_underlying hT, sizeOf, typeInfo, hin, h1, h2]
theorem RdS.sliceFrom {α : Type} {w : World} {M : Nat → Prop} {sz : Nat} {E : List Value → α → Prop} {xs : List α} {P : Program} (T e : TypeId) (i : TypeInfo) (hT : P.underlying T = some (.slice e)) (hin : P.info? e = some i) (hsz : i.size = sz) {a : Option Addr} {n cap : Nat} (h : RdS w M sz E (.slice a n cap) xs) (lo : Nat) (h1 : lo ≤ xs.length) :
    ∃ sa sc, (∀ wx, (Instr.slice T (.slice a n cap) (some (.int .i64 lo)) none none).run P wx = .ok (.slice sa (xs.length - lo) sc) wx) ∧ RdS w M sz E (.slice sa (xs.length - lo) sc) (xs.drop lo) := by
  obtain ⟨sa, sc, q1, q2⟩ := RdS.slice (P := P) T e i hT hin hsz h lo xs.length h1 (Nat.le_refl _) (some (.int .i64 lo)) (.inl rfl)
  obtain ⟨rfl, hc, _⟩ := h.addr
  rw [List.take_length] at q2
  refine ⟨sa, sc, fun wx => ?_, q2⟩
  rw [run_slice_from T e i hT hin a xs.length cap lo h1 hc wx]
  have := q1 wx
  rwa [run_slice_lh T e i hT hin a xs.length cap lo xs.length h1 hc _ (.inl rfl) wx] at this
theorem concat2_ok (c : Nat) (va vb : Value) (xs ys L : List Item) (n : Nat) (M : Nat → Prop) (w : World) (hL : L = xs ++ ys) (hn : L.length = n) (hc : w.heap[c]? = some (.cells #[va, vb] 28 (0, 0))) (hx : RdItems w M va xs) (hy : RdItems w M vb ys)
    (hxl : xs.length ≤ 10000) (hyl : ys.length ≤ 10000) :
    Calls Tryd.prog 66 #[.slice (some ⟨c, 0, none⟩) 2 2] w fun e w' => ∃ a cap Ox, e = .returned (.slice a n cap) ∧ OwnS w' Ox 45 2 EItem (.slice a n cap) L ∧ NewO w none Ox ∧ Kept NoM w w' := by
  subst hL; subst hn
  rw [List.length_append]
  exact concat_ok c va vb xs ys M w hc hx hy hxl hyl

variable [A : Inhabited (Nat → Prop)]
theorem append_walk (D : Nat) (O : Option Nat) (r : Rep) (m : Let) (iv : Value) (ls : List Let) (w : World) (hd : Deed w D O r ls) (hiv : RdItems w (ND D O) iv m.items) (he : ¬ m.ep < r.epoch) (h3 : r.role ≠ 3) (p : Nat) (hp : m.pos = (p : Int)) (hpl : p ≤ r.log.length) (hne : lastF (r.log.take p) = m.aep) (hll : r.log.length ≤ 10000) (hil : m.items.length ≤ 1000) (hl : ls.length ≤ 90000)
    (hF : appendF r m = (⟨r.id, r.count, r.epoch, r.voted, 1, appendLog r m, min (max r.conf (min m.conf (p + m.items.length))) (appendLog r m).length, [], []⟩, [{ kind := 4, src := r.id, dst := m.src, ep := r.epoch, pos := (p : Int) + m.items.length, aep := 0, items := [], conf := 0, yes := true }])) :
    Calls Tryd.prog 50 #[.pointer (some ⟨D, 0, none⟩), .agg #[.int .i64 m.kind, .int .i64 m.src, .int .i64 m.dst, .int .i64 m.ep, .int .i64 m.pos, .int .i64 m.aep, iv, .int .i64 m.conf, .bool m.yes]] w fun e w' => e = .returned (.tuple #[]) ∧ DStep D O w (appendF r m).1 (ls ++ (appendF r m).2) w' := by
  have HF := Lib.hid hF
  clear hF
  obtain ⟨ia, icap, rfl, _, _⟩ := hiv.shape
  obtain ⟨kind, src, dst, ep, pos, aep, items, conf2, yes⟩ := m
  simp only at hp he hne hiv hil
  subst hp
  have dd := Lib.hid hd
  obtain ⟨lv, vv, mv, tv, hD, hlv, hvv, hmv, hown, hOD⟩ := hd
  have hDs := lt_of_block hD
  have hOs := Lib.hid hown.lt
  have c2D := cell_blk hD 2 _ rfl
  have c4D := cell_blk hD 4 _ rfl
  have t1 := decide_eq_false he
  have t2 : (r.role == 3) = false := by rw [beq_eq_false_iff_ne]; exact h3
  clear hlv hvv hmv hown hD h3
  go_enter Tryd.func50, Tryd.ntmps50
  go_wp2_with fail
  go_quiet (fail)
  go_wp2_with fail
  refine (follow_ok D O r ls _ (dd.out.kept0 ((((Kept.refl NoM w).alloc _).alloc _).drewN _))).mono ?_
  rintro e w3 ⟨rfl, O3, d3, k3, n3⟩
  have nB : ∀ i, w.heap.size ≤ i → ¬ MD D O i := by
    rintro i hi (h | h)
    · omega
    · have := hOs.out _ h.symm; omega
  have bB := k3.blk (k := w.heap.size) (blk_drewN (blk_old (blk_new' w _ w.heap.size rfl) _) _) (nB _ (by omega))
  have bM := k3.blk (k := w.heap.size + 1) (blk_drewN (blk_new' _ _ _ (by simp)) _) (nB _ (by omega))
  have c0B := cell_blk bB 0 _ rfl
  have c1M := cell_blk bM 1 _ rfl
  have c4M := cell_blk bM 4 _ rfl
  have c5M := cell_blk bM 5 _ rfl
  have KX := Lib.hid (((((Kept.refl (MD D O) w).alloc _).alloc _).drewN _).trans k3)
  have NX := Lib.hid (n3.of_le (w := w) (by show w.heap.size ≤ ((w.alloc _).alloc _).heap.size; simp; omega))
  have DX := Lib.hid d3
  obtain ⟨lv3, vv3, mv3, tv3, hD3, hlv3, _, _, _, _⟩ := d3
  obtain ⟨la3, lcap3, rfl, hlc3, _⟩ := hlv3.shape
  have c5D := cell_blk hD3 5 _ rfl
  have t5 : decide (((followF r).log.length : Int) < (p : Int)) = false := decide_eq_false (by show ¬ ((r.log.length : Int) < p); omega)
  have t6 : decide ((followF r).log.length < p) = false := decide_eq_false (by show ¬ (r.log.length < p); omega)
  have t7 : (lastF (r.log.take p) != aep) = false := by rw [bne_eq_false_iff_eq]; exact hne
  obtain ⟨ii, zz, ty1, ty2, ty3, ty4, _⟩ := tyItems
  obtain ⟨sa1, sc1, hsl1, hrd1⟩ := RdS.slice 28 45 ii ty1 ty2 ty4 hlv3 0 p (Nat.zero_le _) hpl none (.inr ⟨rfl, rfl⟩)
  simp only [Nat.sub_zero, List.drop_zero] at hsl1 hrd1
  have r4 : ∀ n, RdS (w3.drewN n) (ND D O3) 2 EItem (.slice sa1 p sc1) (r.log.take p) := fun n => hrd1.kept ((Kept.refl _ w3).drewN n) (fun _ _ h => h)
  have hbl : (r.log.take p).length ≤ 1000000000 := by simp; omega
  have HI5 := Lib.hid (show RdItems w3 (ND D O3) (.slice ia items.length icap) items from hiv.step KX.out.nd (ND.sub NX.out))
  have hiv3 : RdItems w3 (ND D O) (.slice ia items.length icap) items := hiv.kept KX.out.nd
  have c6M := cell_blk bM 6 _ rfl
  have c7M := cell_blk bM 7 _ rfl
  have HL3 := Lib.hid hlv3
  have HI3 := Lib.hid hiv3
  have LV3 := hlv3
  clear bB bM hD3 k3 n3 hne hlv3 hiv3 hiv hrd1 ty1 ty2 ty3 ty4
  go_wp2_with fail
  go_quiet ((go_at_call 41; exact quiet_eq (last_ok _ (r.log.take p) (ND D O3) _ (r4 _) hbl)))
  go_wp2_with fail
  obtain ⟨S, hS⟩ : ∃ S, S = sameF (r.log.drop p) items := ⟨_, rfl⟩
  have hSle := sameF_le (r.log.drop p) items
  have hSat := sameF_at (r.log.drop p) items
  have hSst := sameF_stop (r.log.drop p) items
  rw [← hS] at hSle hSat hSst
  have HSA := Lib.hid hSat
  have HST := Lib.hid hSst
  have HSS := Lib.hid hS
  have hSp : p + S ≤ r.log.length := by have := hSle.2; rw [List.length_drop] at this; omega
  have hSi : S ≤ items.length := hSle.1
  clear hSle hSat hSst hS
  go_loopw [5] (fun i wr => ∃ s : Nat, s ≤ S ∧ i = .int .i64 s ∧ ∃ n, wr = w3.drewN n) (fun i _ => S - (intOf i).toNat)
  case atStart => exact ⟨0, Nat.zero_le _, rfl, _, rfl⟩
  case round =>
    obtain ⟨s, hs, rfl, n, rfl⟩ := hrel
    have hpsw : IntKind.wrap .i64 ((p : Int) + s) = (p : Int) + s := IntWalk.i64_in _ (by omega)
    go_upto_region 9 with fail
    go_cut [91] from 53 to 91 (fun c wx => c = .bool (decide (s < S)) ∧ ∃ n, wx = w3.drewN n)
    case first =>
      by_cases hin : s < items.length
      · have hini : (s : Int) < items.length := by omega
        by_cases hlo : p + s < r.log.length
        · have hloi : (p : Int) + s < ((followF r).log.length : Int) := by show (p : Int) + s < (r.log.length : Int); omega
          obtain ⟨x, hx⟩ := get_at hlo
          obtain ⟨y, hy⟩ := get_at hin
          obtain ⟨lb, loff, e1, nl, hlb, x0, _⟩ := RdItems.at (xs := (followF r).log) LV3 hx
          obtain ⟨ib, ioff, e2, ni, hib, y0, _⟩ := HI3.out.at hy
          subst e1 e2
          by_cases hep : x.ep = y.ep
          · have t9 : (x.ep == y.ep) = true := by rw [beq_iff_eq]; exact hep
            have hlt : decide (s < S) = true := by
              refine decide_eq_true ?_
              rcases Nat.lt_or_eq_of_le hs with h | h
              · exact h
              · subst h
                rcases HST.out with h | h | ⟨a, b, h1, h2, h3⟩
                · omega
                · rw [List.length_drop] at h; omega
                · rw [List.getElem?_drop, hx] at h1
                  rw [hy] at h2
                  cases h1; cases h2
                  exact absurd hep h3
            have HLT := Lib.hid hlt
            clear hep hx hy hlt nl ni
            go_quiet (fail)
            go_wp2
            go_meet
            exact ⟨congrArg Value.bool HLT.out.symm, _, World.drewN_drewN _ _ _⟩
          · have t9 : (x.ep == y.ep) = false := by rw [beq_eq_false_iff_ne]; exact hep
            have hlt : decide (s < S) = false := by
              refine decide_eq_false fun h => ?_
              obtain ⟨a, b, h1, h2, h3⟩ := HSA.out s h
              rw [List.getElem?_drop, hx] at h1
              rw [hy] at h2
              cases h1; cases h2
              exact hep h3
            have HLT := Lib.hid hlt
            clear hep hx hy hlt nl ni
            go_quiet (fail)
            go_wp2
            go_meet
            exact ⟨congrArg Value.bool HLT.out.symm, _, World.drewN_drewN _ _ _⟩
        · have u1 : decide ((p : Int) + s < ((followF r).log.length : Int)) = false := decide_eq_false (by show ¬ ((p : Int) + s < (r.log.length : Int)); omega)
          have u2 : decide (p + s < (followF r).log.length) = false := decide_eq_false (by show ¬ (p + s < r.log.length); omega)
          have HLT := Lib.hid (show decide (s < S) = false from decide_eq_false (by omega))
          clear hlo
          go_quiet (fail)
          go_wp2
          go_meet
          exact ⟨congrArg Value.bool HLT.out.symm, _, World.drewN_drewN _ _ _⟩
      · have u1 : decide ((s : Int) < (items.length : Int)) = false := decide_eq_false (by omega)
        have u2 : decide (s < items.length) = false := decide_eq_false hin
        have HLT := Lib.hid (show decide (s < S) = false from decide_eq_false (by omega))
        clear hin
        go_quiet (fail)
        go_wp2
        go_meet
        exact ⟨congrArg Value.bool HLT.out.symm, _, World.drewN_drewN _ _ _⟩
    case rest =>
      obtain ⟨rfl, n2, rfl⟩ := hcut
      by_cases hlt : s < S
      · have v1 : decide (s < S) = true := decide_eq_true hlt
        rw [v1]
        go_wp2
        go_roundw
        case rel => exact ⟨s + 1, by omega, by go_num, _, rfl⟩
        case measure => simp [intOf]; omega
      · obtain rfl : s = S := by omega
        have v1 : decide (s < s) = false := decide_eq_false hlt
        rw [v1]
        by_cases hin : s < items.length
        · have u1 : decide ((s : Int) < (items.length : Int)) = true := decide_eq_true (by omega)
          have u2 : decide (s < items.length) = true := decide_eq_true hin
          obtain ⟨L, hL⟩ : ∃ L, L = r.log.take (p + s) ++ items.drop s := ⟨_, rfl⟩
          have hAL : appendLog r ⟨kind, src, dst, ep, p, aep, items, conf2, yes⟩ = L := by
            unfold appendLog; simp only [Int.toNat_natCast, ← HSS.out]; rw [if_pos hin, hL]
          have hLl : L.length = p + items.length := by rw [hL]; simp; omega
          rw [hAL] at HF
          obtain ⟨cf, hcf⟩ : ∃ cf : Int, cf = min (max r.conf (min conf2 (p + items.length))) (L.length : Int) := ⟨_, rfl⟩
          rw [← hcf] at HF
          have HCF := Lib.hid hcf
          have HL := Lib.hid hL
          have HLL := Lib.hid hLl
          obtain ⟨lv9, vv9, mv9, tv9, hD9, q1, q2, q3, q4, q5⟩ := DX.out
          obtain ⟨la9, lc9, rfl, _, _⟩ := q1.shape
          obtain ⟨va9, vc9, rfl, _, _⟩ := q2.shape
          obtain ⟨ma9, mc9, rfl, _, _⟩ := q3.shape
          obtain ⟨ta9, tc9, rfl, _⟩ := q4.shape
          obtain ⟨w4, e4, zD4, b04, b11, b14, b16, b17, p1, p2, p3, p4, hi4⟩ : ∃ w4, w3 = putB w4 D #[.int .i64 r.id, .int .i64 r.count, .int .i64 r.epoch, .int .i64 r.voted, .int .i64 1, .slice la9 r.log.length lc9, .int .i64 r.conf, .slice va9 0 vc9, .slice ma9 0 mc9, .slice ta9 ls.length tc9] 77 ∧ D < w4.heap.size ∧ w4.cell? ⟨w.heap.size, 0, none⟩ = some _ ∧ w4.cell? ⟨w.heap.size + 1, 1, none⟩ = some _ ∧ w4.cell? ⟨w.heap.size + 1, 4, none⟩ = some _ ∧ w4.cell? ⟨w.heap.size + 1, 6, none⟩ = some _ ∧ w4.cell? ⟨w.heap.size + 1, 7, none⟩ = some _ ∧ RdItems w4 (ND D O3) (.slice la9 r.log.length lc9) r.log ∧ RdBools w4 (ND D O3) (.slice va9 0 vc9) [] ∧ RdInts w4 (ND D O3) (.slice ma9 0 mc9) [] ∧ OwnS w4 O3 57 9 (ELet w4 (ND D O3)) (.slice ta9 ls.length tc9) ls ∧ RdItems w4 (ND D O3) (.slice ia items.length icap) items := ⟨w3, putB_self hD9, lt_of_block hD9, c0B, c1M, c4M, c6M, c7M, q1, q2, q3, q4, HI5.out⟩
          have hDB1 : D < w.heap.size + 1 := by omega
          obtain ⟨ii, zz, ty1, ty2, ty3, ty4, _⟩ := tyItems
          obtain ⟨sa2, sc2, hsl2, hrd2⟩ := RdS.slice 28 45 ii ty1 ty2 ty4 p1 0 (p + s) (Nat.zero_le _) hSp none (.inr ⟨rfl, rfl⟩)
          obtain ⟨sa3, sc3, hsl3, hrd3⟩ := RdS.sliceFrom 28 45 ii ty1 ty2 ty4 hi4 s hSi
          simp only [Nat.sub_zero, List.drop_zero, Int.natCast_add] at hsl2 hrd2
          have hb2 : (r.log.take (p + s)).length ≤ 10000 := by simp; omega
          have hb3 : (items.drop s).length ≤ 10000 := by simp; omega
          clear hD9 q1 q2 q3 q4 LV3 DX dd r4 hsl1 c0B c1M c4M c5M c6M c7M c5D hcf hAL HST HSA HL3 HI3 HI5 c2D c4D ty1 ty2 ty3 ty4 hi4 hL hLl
          subst e4
          go_upto_region 12 with fail
          go_cut [] from 99 to 118 (fun wx => ∃ w6 a6 cap6, wx = putB w6 D #[.int .i64 r.id, .int .i64 r.count, .int .i64 r.epoch, .int .i64 r.voted, .int .i64 1, .slice a6 (p + items.length) cap6, .int .i64 r.conf, .slice va9 0 vc9, .slice ma9 0 mc9, .slice ta9 ls.length tc9] 77 ∧ Kept (fun k => k = D) w4 w6 ∧ RdItems w6 (ND D O3) (.slice a6 (p + items.length) cap6) L ∧ D < w6.heap.size)
          case first =>
            have KS : ∀ W, Kept (fun k => k = D) w4 W → W.cell? ⟨w.heap.size, 0, none⟩ = some (.pointer (some ⟨D, 0, none⟩)) ∧ W.cell? ⟨w.heap.size + 1, 4, none⟩ = some (.int .i64 p) ∧ W.cell? ⟨w.heap.size + 1, 6, none⟩ = some (.slice ia items.length icap) := fun W k => ⟨k.cell b04 (fun h => by have h : w.heap.size = D := h; omega), k.cell b14 (fun h => by have h : w.heap.size + 1 = D := h; omega), k.cell b16 (fun h => by have h : w.heap.size + 1 = D := h; omega)⟩
            have KP : ∀ c, Kept (fun k => k = D) w4 (putB w4 D c 77) := fun c => (Kept.refl (fun k => k = D) w4).putM (b := D) rfl c 77
            have KA : ∀ o n, Kept (fun k => k = D) w4 (((putB w4 D #[.int .i64 r.id, .int .i64 r.count, .int .i64 r.epoch, .int .i64 r.voted, .int .i64 1, .slice la9 r.log.length lc9, .int .i64 r.conf, .slice va9 0 vc9, .slice ma9 0 mc9, .slice ta9 ls.length tc9] 77).alloc o).drewN n) := fun o n => ((KP _).alloc o).drewN n
            have KD : ∀ i, i < w4.heap.size → i = D → ND D O3 i := fun i _ h => .inl h
            have hnn : ∀ g, w4.heap.size ≤ g → ¬ ND D O3 g := by
              rintro g hg (h | h | h)
              · omega
              · have := p4.lt _ h.symm; omega
              · omega
            have hcon : ∀ n, Calls Tryd.prog 66 #[.slice (some ⟨w4.heap.size, 0, none⟩) 2 2] (((putB w4 D #[.int .i64 r.id, .int .i64 r.count, .int .i64 r.epoch, .int .i64 r.voted, .int .i64 1, .slice la9 r.log.length lc9, .int .i64 r.conf, .slice va9 0 vc9, .slice ma9 0 mc9, .slice ta9 ls.length tc9] 77).alloc (.cells #[.slice sa2 (p + s) sc2, .slice sa3 (items.length - s) sc3] 28)).drewN n) fun e w' => ∃ w6 a6 cap6, e = .returned (.slice a6 (p + items.length) cap6) ∧ w' = putB w6 D #[.int .i64 r.id, .int .i64 r.count, .int .i64 r.epoch, .int .i64 r.voted, .int .i64 1, .slice la9 r.log.length lc9, .int .i64 r.conf, .slice va9 0 vc9, .slice ma9 0 mc9, .slice ta9 ls.length tc9] 77 ∧ Kept (fun k => k = D) w4 w6 ∧ RdItems w6 (ND D O3) (.slice a6 (p + items.length) cap6) L ∧ D < w6.heap.size := by
              intro n
              refine (concat2_ok w4.heap.size _ _ _ _ L (p + items.length) (ND D O3) _ HL.out HLL.out (blk_drewN (blk_new' _ _ _ (putB_size _ _ _ _).symm) n) (hrd2.kept ((KA _ n).mono KD) (fun _ _ h => h)) (hrd3.kept ((KA _ n).mono KD) (fun _ _ h => h)) hb2 hb3).mono ?_
              rintro e w5 ⟨a5, cap5, O5, rfl, own5, new5, k5⟩
              have kk := (KA _ n).transN k5
              have bD := k5.blk (blk_drewN (blk_old (putB_blk w4 D #[.int .i64 r.id, .int .i64 r.count, .int .i64 r.epoch, .int .i64 r.voted, .int .i64 1, .slice la9 r.log.length lc9, .int .i64 r.conf, .slice va9 0 vc9, .slice ma9 0 mc9, .slice ta9 ls.length tc9] 77 zD4) _) n) (fun x => x)
              have rr := own5.rdNew (M := ND D O3) new5 (fun g hg => hnn g (by have hg : ((putB w4 D _ 77).alloc _).heap.size ≤ g := hg; simp only [World.size_alloc, putB_size] at hg; omega))
              exact ⟨w5, a5, cap5, rfl, putB_self bD, kk, rr, lt_of_block bD⟩
            refine wp_region_noPanic ?_
            refine wp_region_held_drew (S := (fun w' => w'.cell? ⟨w.heap.size, 0, none⟩ = some (.pointer (some ⟨D, 0, none⟩)) ∧ w'.cell? ⟨w.heap.size + 1, 4, none⟩ = some (.int .i64 p) ∧ w'.cell? ⟨w.heap.size + 1, 6, none⟩ = some (.slice ia items.length icap))) (by kernel_rfl) ?hS0 (fun hHeld => ?restA)
            case hS0 => (first | exact KS _ ((KP _).drewN _).drew | exact KS _ ((((KP _).drewN _).drew).alloc _) | exact KS _ (((KP _).alloc _).drewN _) | exact KS _ ((KP _).drewN _) | exact KS _ (k46.putM (b := D) rfl _ _))
            refine wpAnyH_take (i := 0) (v := ?v0) rfl (by kernel_rfl) (by kernel_rfl) (by kernel_rfl) (fun _ _ _ h => h) (Or.inl ⟨by rfl, ?hy0⟩) (by assumption) ?rest0
            case hy0 => intro w hSw; (try dsimp only at hSw); go_simp <;> with_reducible rfl
            try simp only [Act.put, List.setIfInBounds_toArray, List.set_cons_zero, List.set_cons_succ]
            refine wpAnyH_take (i := 1) (v := ?v1) rfl (by kernel_rfl) (by kernel_rfl) (by kernel_rfl) (fun _ _ _ h => h) (Or.inl ⟨by rfl, ?hy1⟩) (by assumption) ?rest1
            case hy1 => intro w hSw; (try dsimp only at hSw); go_simp <;> with_reducible rfl
            try simp only [Act.put, List.setIfInBounds_toArray, List.set_cons_zero, List.set_cons_succ]
            refine wpAnyH_take (i := 2) (v := ?v2) rfl (by kernel_rfl) (by kernel_rfl) (by kernel_rfl) (fun _ _ _ h => h) (Or.inl ⟨by rfl, ?hy2⟩) (by assumption) ?rest2
            case hy2 => intro w hSw; (try dsimp only at hSw); go_simp <;> with_reducible rfl
            try simp only [Act.put, List.setIfInBounds_toArray, List.set_cons_zero, List.set_cons_succ]
            refine wpAnyH_take (i := 3) (v := ?v3) rfl (by kernel_rfl) (by kernel_rfl) (by kernel_rfl) (fun _ _ _ h => h) (Or.inl ⟨by rfl, ?hy3⟩) (by assumption) ?rest3
            case hy3 => intro w hSw; (try dsimp only at hSw); go_simp <;> with_reducible rfl
            try simp only [Act.put, List.setIfInBounds_toArray, List.set_cons_zero, List.set_cons_succ]
            refine wpAnyH_take (i := 4) (v := ?v4) rfl (by kernel_rfl) (by kernel_rfl) (by kernel_rfl) (fun _ _ _ h => h) (Or.inl ⟨by rfl, ?hy4⟩) (by assumption) ?rest4
            case hy4 => intro w hSw; (try dsimp only at hSw); go_simp <;> with_reducible rfl
            try simp only [Act.put, List.setIfInBounds_toArray, List.set_cons_zero, List.set_cons_succ]
            refine wpAnyH_take (i := 6) (v := ?v6) rfl (by kernel_rfl) (by kernel_rfl) (by kernel_rfl) (fun _ _ _ h => h) (Or.inl ⟨by rfl, ?hy6⟩) (by assumption) ?rest6
            case hy6 => intro w hSw; (try dsimp only at hSw); go_simp <;> with_reducible rfl
            try simp only [Act.put, List.setIfInBounds_toArray, List.set_cons_zero, List.set_cons_succ]
            refine wpAnyH_take (i := 7) (v := ?v7) rfl (by kernel_rfl) (by kernel_rfl) (by kernel_rfl) (fun _ _ _ h => h) (Or.inl ⟨by rfl, ?hy7⟩) (by assumption) ?rest7
            case hy7 => intro w hSw; (try dsimp only at hSw); go_simp <;> with_reducible rfl
            try simp only [Act.put, List.setIfInBounds_toArray, List.set_cons_zero, List.set_cons_succ]
            refine wpAnyH_take (i := 8) (v := ?v8) rfl (by kernel_rfl) (by kernel_rfl) (by kernel_rfl) (fun _ _ _ h => h) (Or.inl ⟨by rfl, ?hy8⟩) (by assumption) ?rest8
            case hy8 => intro w hSw; (try dsimp only at hSw); go_simp <;> with_reducible rfl
            try simp only [Act.put, List.setIfInBounds_toArray, List.set_cons_zero, List.set_cons_succ]
            refine wpAnyH_take (i := 9) (v := ?v9) rfl (by kernel_rfl) (by kernel_rfl) (by kernel_rfl) (fun _ _ _ h => h) (Or.inl ⟨by rfl, ?hy9⟩) (by assumption) ?rest9
            case hy9 => intro w hSw; (try dsimp only at hSw); go_simp <;> with_reducible rfl
            try simp only [Act.put, List.setIfInBounds_toArray, List.set_cons_zero, List.set_cons_succ]
            refine wpAnyH_take (i := 11) (v := ?v11) rfl (by kernel_rfl) (by kernel_rfl) (by kernel_rfl) (fun _ _ _ h => h) (Or.inl ⟨by rfl, ?hy11⟩) (by assumption) ?rest11
            case hy11 => intro w hSw; (try dsimp only at hSw); go_simp <;> with_reducible rfl
            try simp only [Act.put, List.setIfInBounds_toArray, List.set_cons_zero, List.set_cons_succ]
            refine wpAnyH_take (i := 12) (v := ?v12) rfl (by kernel_rfl) (by kernel_rfl) (by kernel_rfl) (fun _ _ _ h => h) (Or.inl ⟨by rfl, ?hy12⟩) (by assumption) ?rest12
            case hy12 => intro w hSw; (try dsimp only at hSw); go_simp <;> with_reducible rfl
            try simp only [Act.put, List.setIfInBounds_toArray, List.set_cons_zero, List.set_cons_succ]
            refine wpAnyH_take (i := 13) (v := ?v13) rfl (by kernel_rfl) (by kernel_rfl) (by kernel_rfl) (fun _ _ _ h => h) (Or.inl ⟨by rfl, ?hy13⟩) (by assumption) ?rest13
            case hy13 => intro w hSw; (try dsimp only at hSw); go_simp <;> with_reducible rfl
            try simp only [Act.put, List.setIfInBounds_toArray, List.set_cons_zero, List.set_cons_succ]
            refine wpAnyH_take (i := 14) (v := ?v14) rfl (by kernel_rfl) (by kernel_rfl) (by kernel_rfl) (fun _ _ _ h => h) (Or.inl ⟨by rfl, ?hy14⟩) (by assumption) ?rest14
            case hy14 => intro w hSw; (try dsimp only at hSw); go_simp <;> with_reducible rfl
            try simp only [Act.put, List.setIfInBounds_toArray, List.set_cons_zero, List.set_cons_succ]
            refine wpAnyH_ready (rs := [5]) (by kernel_rfl) (by simp) ?_
            refine AllReadyH.cons rfl (fun K hK => ?_) AllReadyH.nil
            go_simp
            refine hK.out _ _ ?hT1 (fun hHeld1 => ?restT1)
            case hT1 => (try dsimp only); (first | exact KS _ ((KP _).drewN _).drew | exact KS _ ((((KP _).drewN _).drew).alloc _) | exact KS _ (((KP _).alloc _).drewN _) | exact KS _ ((KP _).drewN _) | exact KS _ (k46.putM (b := D) rfl _ _))
            clear hK K
            try simp only [Act.put, List.setIfInBounds_toArray, List.set_cons_zero, List.set_cons_succ]
            clear hHeld
            refine wpAnyH_take (i := 10) (v := ?v10) rfl (by kernel_rfl) (by kernel_rfl) (by kernel_rfl) (fun _ _ _ h => h) (Or.inl ⟨by rfl, ?hy10⟩) (by assumption) ?rest10
            case hy10 => intro w hSw; (try dsimp only at hSw); go_simp <;> with_reducible rfl
            try simp only [Act.put, List.setIfInBounds_toArray, List.set_cons_zero, List.set_cons_succ]
            refine wpAnyH_ready (rs := [15]) (by kernel_rfl) (by simp) ?_
            refine AllReadyH.cons rfl (fun K hK => ?_) AllReadyH.nil
            go_simp
            refine hK.out _ _ ?hT2 (fun hHeld2 => ?restT2)
            case hT2 => (try dsimp only); (first | exact KS _ ((KP _).drewN _).drew | exact KS _ ((((KP _).drewN _).drew).alloc _) | exact KS _ (((KP _).alloc _).drewN _) | exact KS _ ((KP _).drewN _) | exact KS _ (k46.putM (b := D) rfl _ _))
            clear hK K
            try simp only [Act.put, List.setIfInBounds_toArray, List.set_cons_zero, List.set_cons_succ]
            clear hHeld1
            refine wpAnyH_ready (rs := [16]) (by kernel_rfl) (by simp) ?_
            refine AllReadyH.cons rfl (fun K hK => ?_) AllReadyH.nil
            go_simp
            (go_at_call 66; refine (hcon _).mono ?_; rintro e w5 ⟨w6, a6, cap6, rfl, rfl, k46, hlog, zD6⟩)
            refine hK.out _ _ ?hT3 (fun hHeld3 => ?restT3)
            case hT3 => (try dsimp only); (first | exact KS _ ((KP _).drewN _).drew | exact KS _ ((((KP _).drewN _).drew).alloc _) | exact KS _ (((KP _).alloc _).drewN _) | exact KS _ ((KP _).drewN _) | exact KS _ (k46.putM (b := D) rfl _ _))
            clear hK K
            try simp only [Act.put, List.setIfInBounds_toArray, List.set_cons_zero, List.set_cons_succ]
            clear hHeld2
            refine wpAnyH_take (i := 17) (v := ?v17) rfl (by kernel_rfl) (by kernel_rfl) (by kernel_rfl) (fun _ _ _ h => h) (Or.inl ⟨by rfl, ?hy17⟩) (by assumption) ?rest17
            case hy17 => intro w hSw; (try dsimp only at hSw); go_simp <;> with_reducible rfl
            try simp only [Act.put, List.setIfInBounds_toArray, List.set_cons_zero, List.set_cons_succ]
            refine wpAnyH_take (i := 18) (v := ?v18) rfl (by kernel_rfl) (by kernel_rfl) (by kernel_rfl) (fun _ _ _ h => h) (Or.inl ⟨by rfl, ?hy18⟩) (by assumption) ?rest18
            case hy18 => intro w hSw; (try dsimp only at hSw); go_simp <;> with_reducible rfl
            try simp only [Act.put, List.setIfInBounds_toArray, List.set_cons_zero, List.set_cons_succ]
            refine wpAnyH_take (i := 19) (v := ?v19) rfl (by kernel_rfl) (by kernel_rfl) (by kernel_rfl) (fun _ _ _ h => h) (Or.inl ⟨by rfl, ?hy19⟩) (by assumption) ?rest19
            case hy19 => intro w hSw; (try dsimp only at hSw); go_simp <;> with_reducible rfl
            try simp only [Act.put, List.setIfInBounds_toArray, List.set_cons_zero, List.set_cons_succ]
            refine wpAnyH_ready (rs := [20]) (by kernel_rfl) (by simp) ?_
            refine AllReadyH.cons rfl (fun K hK => ?_) AllReadyH.nil
            go_simp
            refine hK.out _ _ ?hT4 (fun hHeld4 => ?restT4)
            case hT4 => (try dsimp only); (first | exact KS _ ((KP _).drewN _).drew | exact KS _ ((((KP _).drewN _).drew).alloc _) | exact KS _ (((KP _).alloc _).drewN _) | exact KS _ ((KP _).drewN _) | exact KS _ (k46.putM (b := D) rfl _ _))
            clear hK K
            try simp only [Act.put, List.setIfInBounds_toArray, List.set_cons_zero, List.set_cons_succ]
            clear hHeld3
            refine wpAnyH_done (by kernel_rfl) ?_ _
            refine NoPanic.normal ?_
            all_goals go_wp2
            all_goals go_meet
            all_goals exact ⟨_, _, _, rfl, k46, hlog, zD6⟩
          case rest =>
            obtain ⟨w6, a6, cap6, rfl, k46, hlog, zD6⟩ := hcut
            have NB : ∀ i, w.heap.size ≤ i → ¬ i = D := fun i h => by omega
            have b04' := k46.cell b04 (NB _ (Nat.le_refl _))
            have b11' := k46.cell b11 (NB _ (Nat.le_succ _))
            have b14' := k46.cell b14 (NB _ (Nat.le_succ _))
            have b16' := k46.cell b16 (NB _ (Nat.le_succ _))
            have b17' := k46.cell b17 (NB _ (Nat.le_succ _))
            have k46' : Kept (ND D O3) w4 w6 := k46.mono (fun _ _ h => .inl h)
            have p2' := p2.kept k46'
            have p3' := p3.kept k46'
            have p4' := p4.kept k46 (fun g hg h => q5 (by rw [hg, h])) (fun _ _ h => h.kept k46')
            clear b04 b11 b14 b16 b17 p1 p2 p3 hrd2 hrd3 hsl2 hsl3
            go_upto_region 14 with fail
            go_cut [] from 125 to 145 (fun wx => ∃ n, wx = World.drewN (putB w6 D #[.int .i64 r.id, .int .i64 r.count, .int .i64 r.epoch, .int .i64 r.voted, .int .i64 1, .slice a6 (p + items.length) cap6, .int .i64 cf, .slice va9 0 vc9, .slice ma9 0 mc9, .slice ta9 ls.length tc9] 77) n)
            case first =>
              go_region
              go_wp2
              all_goals
                go_meet
                refine ⟨_, congrArg (fun v => World.drewN (putB w6 D #[.int .i64 r.id, .int .i64 r.count, .int .i64 r.epoch, .int .i64 r.voted, .int .i64 1, .slice a6 (p + items.length) cap6, .int .i64 v, .slice va9 0 vc9, .slice ma9 0 mc9, .slice ta9 ls.length tc9] 77) _) ?_⟩
                have := HCF.out
                have := HLL.out
                omega
            case rest =>
              obtain ⟨n5, rfl⟩ := hcut
              have Kw : ∀ c O, Kept (fun k => k = D) w6 (((putB w6 D c 77).drewN n5).alloc O) := fun c O => (((Kept.refl (fun k => k = D) w6).putM (b := D) rfl c 77).drewN n5).alloc O
              have bw : ∀ c O, (((putB w6 D c 77).drewN n5).alloc O).heap[D]? = some (.cells c 77 (0, 0)) := fun c O => blk_old (blk_drewN (putB_blk _ _ _ _ zD6) _) _
              have bl : ∀ c O, (((putB w6 D c 77).drewN n5).alloc O).heap[w6.heap.size]? = some O := fun c O => blk_new' _ _ _ (by show _ = (putB w6 D c 77).heap.size; rw [putB_size])
              have hbM : ¬ MD D O3 w6.heap.size := by
                rintro (h | h)
                · omega
                · have := p4'.lt _ h.symm; omega
              have k46M : Kept (MD D O) w4 w6 := k46.mono (fun _ _ h => .inl h)
              have KZ : ∀ c L', Kept (MD D O) w (((putB w6 D c 77).drewN n5).alloc L') := fun c L' => KX.out.trans (((((k46M.putM (b := D) (.inl rfl) c 77).drewN n5).alloc L')).offB (.inl rfl))
              go_wp2_with fail
              refine (send_ok D O3 ⟨r.id, r.count, r.epoch, r.voted, 1, L, cf, [], []⟩ ls _ (Deed.mk0 q5 (Kw _ _) (bw _ _) (by first | exact hlog | (rw [HLL.out] at hlog; exact hlog)) p2' p3' p4') ⟨4, 0, src, 0, (p : Int) + items.length, 0, [], 0, true⟩ _ _ (bl _ _) (RdItems.nil _ _) hbM (by omega)).mono ?_
              rintro e w8 ⟨rfl, hst, _⟩
              go_wp2
              go_end0
              refine ⟨rfl, ?_⟩
              rw [HF.out]
              exact DStep.behind (KZ _ _) NX.out hst
        · have u1 : decide ((s : Int) < (items.length : Int)) = false := decide_eq_false (by omega)
          have u2 : decide (s < items.length) = false := decide_eq_false hin
          have hAL : appendLog r ⟨kind, src, dst, ep, p, aep, items, conf2, yes⟩ = r.log := by
            unfold appendLog; simp only [Int.toNat_natCast, ← HSS.out]; rw [if_neg hin]
          rw [hAL] at HF
          obtain ⟨cf, hcf⟩ : ∃ cf : Int, cf = min (max r.conf (min conf2 (p + items.length))) (r.log.length : Int) := ⟨_, rfl⟩
          rw [← hcf] at HF
          have HCF := Lib.hid hcf
          obtain ⟨lv9, vv9, mv9, tv9, hD9, q1, q2, q3, q4, q5⟩ := DX.out
          obtain ⟨la9, lc9, rfl, _, _⟩ := q1.shape
          obtain ⟨va9, vc9, rfl, _, _⟩ := q2.shape
          obtain ⟨ma9, mc9, rfl, _, _⟩ := q3.shape
          obtain ⟨ta9, tc9, rfl, _⟩ := q4.shape
          obtain ⟨w4, e4, zD4, b04, b11, b14, b16, b17, p1, p2, p3, p4⟩ : ∃ w4, w3 = putB w4 D #[.int .i64 r.id, .int .i64 r.count, .int .i64 r.epoch, .int .i64 r.voted, .int .i64 1, .slice la9 r.log.length lc9, .int .i64 r.conf, .slice va9 0 vc9, .slice ma9 0 mc9, .slice ta9 ls.length tc9] 77 ∧ D < w4.heap.size ∧ w4.cell? ⟨w.heap.size, 0, none⟩ = some _ ∧ w4.cell? ⟨w.heap.size + 1, 1, none⟩ = some _ ∧ w4.cell? ⟨w.heap.size + 1, 4, none⟩ = some _ ∧ w4.cell? ⟨w.heap.size + 1, 6, none⟩ = some _ ∧ w4.cell? ⟨w.heap.size + 1, 7, none⟩ = some _ ∧ RdItems w4 (ND D O3) (.slice la9 r.log.length lc9) r.log ∧ RdBools w4 (ND D O3) (.slice va9 0 vc9) [] ∧ RdInts w4 (ND D O3) (.slice ma9 0 mc9) [] ∧ OwnS w4 O3 57 9 (ELet w4 (ND D O3)) (.slice ta9 ls.length tc9) ls := ⟨w3, putB_self hD9, lt_of_block hD9, c0B, c1M, c4M, c6M, c7M, q1, q2, q3, q4⟩
          have hDB1 : D < w.heap.size + 1 := by omega

          clear hD9 q1 q2 q3 q4 LV3 DX dd r4 hsl1 c0B c1M c4M c5M c6M c7M c5D hcf hAL HST HSA HL3 HI3 c2D c4D
          subst e4
          go_upto_region 14 with fail
          go_cut [] from 125 to 145 (fun wx => ∃ n, wx = World.drewN (putB w4 D #[.int .i64 r.id, .int .i64 r.count, .int .i64 r.epoch, .int .i64 r.voted, .int .i64 1, .slice la9 r.log.length lc9, .int .i64 cf, .slice va9 0 vc9, .slice ma9 0 mc9, .slice ta9 ls.length tc9] 77) n)
          case first =>
            go_region
            go_wp2
            all_goals
              go_meet
              refine ⟨_, congrArg (fun v => World.drewN (putB w4 D #[.int .i64 r.id, .int .i64 r.count, .int .i64 r.epoch, .int .i64 r.voted, .int .i64 1, .slice la9 r.log.length lc9, .int .i64 v, .slice va9 0 vc9, .slice ma9 0 mc9, .slice ta9 ls.length tc9] 77) _) ?_⟩
              have := HCF.out
              omega
          case rest =>
            obtain ⟨n5, rfl⟩ := hcut
            have Kw : ∀ c L, Kept (fun k => k = D) w4 (((putB w4 D c 77).drewN n5).alloc L) := fun c L => (((Kept.refl (fun k => k = D) w4).putM (b := D) rfl c 77).drewN n5).alloc L
            have bw : ∀ c L, (((putB w4 D c 77).drewN n5).alloc L).heap[D]? = some (.cells c 77 (0, 0)) := fun c L => blk_old (blk_drewN (putB_blk _ _ _ _ zD4) _) _
            have bl : ∀ c L, (((putB w4 D c 77).drewN n5).alloc L).heap[w4.heap.size]? = some L := fun c L => blk_new' _ _ _ (by show _ = (putB w4 D c 77).heap.size; rw [putB_size])
            have hbM : ¬ MD D O3 w4.heap.size := by
              rintro (h | h)
              · omega
              · have := p4.lt _ h.symm; omega
            have KZ : ∀ c L, Kept (MD D O) w (((putB w4 D c 77).drewN n5).alloc L) := fun c L => KX.out.trans ((((((Kept.refl (MD D O) w4).putM (b := D) (.inl rfl) c 77).drewN n5).alloc L)).offB (.inl rfl))
            go_wp2_with fail
            refine (send_ok D O3 ⟨r.id, r.count, r.epoch, r.voted, 1, r.log, cf, [], []⟩ ls _ (Deed.mk0 q5 (Kw _ _) (bw _ _) p1 p2 p3 p4) ⟨4, 0, src, 0, (p : Int) + items.length, 0, [], 0, true⟩ _ _ (bl _ _) (RdItems.nil _ _) hbM (by omega)).mono ?_
            rintro e w6 ⟨rfl, hst, _⟩
            go_wp2
            go_end0
            refine ⟨rfl, ?_⟩
            rw [HF.out]
            exact DStep.behind (KZ _ _) NX.out hst
end Go.Proofs.YtgohploghbimlaaDoor
