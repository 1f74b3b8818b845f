/- Texts that belong together: W26, W27, V11. -/
import Derived.Test.YtghgegghlefclaaKW8
import Derived.Test.YtghgegghlefclaaKW23
import Derived.Test.YtghgegghlefclaaKV3
set_option linter.unusedVariables false
set_option linter.unusedSimpArgs false
set_option linter.unusedSectionVars false
/- Walks: Put of the specification. -/
namespace Go.Proofs.Ytghgegghlefclaa
open Go.RowKit
set_option maxHeartbeats 2000000
set_option maxRecDepth 8000
/-- one round: what is written so far, and whether the new rule is in it -/
def stepP (r : Ru) (s : List Ru × Bool) (x : Ru) : List Ru × Bool :=
  if s.2 = false ∧ x.pri ≤ r.pri then (if x.pri = r.pri then (s.1 ++ [r], true) else (s.1 ++ [r] ++ [x], true))
  else (if x.pri = r.pri then s else (s.1 ++ [x], s.2))
theorem stepP_in {r : Ru} (t : List Ru) (acc : List Ru) : t.foldl (stepP r) (acc, true) = (acc ++ remT r.pri t, true) := by
  induction t generalizing acc with
  | nil => simp [remT]
  | cons x t ih =>
    rw [List.foldl_cons]
    unfold remT
    rw [List.filter_cons]
    by_cases h : x.pri = r.pri
    · have e : stepP r (acc, true) x = (acc, true) := by unfold stepP; simp [h]
      rw [e, ih, if_neg (by simpa using h)]; rfl
    · have e : stepP r (acc, true) x = (acc ++ [x], true) := by unfold stepP; simp [h]
      rw [e, ih, if_pos (by simpa using h)]
      simp [remT]
theorem remT_low {p : Int} {t : List Ru} (h : ∀ y ∈ t, y.pri < p) : remT p t = t := by
  unfold remT
  rw [List.filter_eq_self]
  intro y hy
  have := h y hy
  simp; omega
/-- the last step -/
def endP (r : Ru) (s : List Ru × Bool) : List Ru := if s.2 = true then s.1 else s.1 ++ [r]
theorem stepP_ins {r : Ru} (t : List Ru) (h : DecT t) (acc : List Ru) : endP r (t.foldl (stepP r) (acc, false)) = acc ++ insT r t := by
  induction t generalizing acc with
  | nil => simp [endP, insT]
  | cons x t ih =>
    obtain ⟨h1, h2⟩ := h
    rw [List.foldl_cons]
    unfold insT
    by_cases c1 : x.pri < r.pri
    · have e : stepP r (acc, false) x = (acc ++ [r] ++ [x], true) := by
        unfold stepP
        rw [if_pos ⟨rfl, by omega⟩, if_neg (by omega)]
      rw [e, stepP_in, if_pos c1, remT_low (fun y hy => by have := h1 y hy; omega)]
      simp [endP]
    · rw [if_neg c1]
      by_cases c2 : x.pri = r.pri
      · have e : stepP r (acc, false) x = (acc ++ [r], true) := by
          unfold stepP
          rw [if_pos ⟨rfl, by omega⟩, if_pos c2]
        rw [e, stepP_in, if_pos c2, remT_low (fun y hy => by have := h1 y hy; omega)]
        simp [endP]
      · have e : stepP r (acc, false) x = (acc ++ [x], false) := by
          unfold stepP
          rw [if_neg (by rintro ⟨_, h⟩; have : x.pri ≤ r.pri := h; omega), if_neg c2]
        rw [e, ih h2, if_neg c2]
        simp
theorem putU_fold {t : List Ru} {x : Wr} (hd : DecT t) (h3 : x.kind ≠ 3) : endP x.rule (t.foldl (stepP x.rule) ([], decide (x.kind = 2))) = putU t x := by
  unfold putU
  rw [if_neg h3]
  by_cases h2 : x.kind = 2
  · rw [if_pos h2, decide_eq_true h2, stepP_in]; rfl
  · rw [if_neg h2, decide_eq_false h2, stepP_ins t hd]; rfl
theorem stepP_len (r : Ru) (s : List Ru × Bool) (x : Ru) : (stepP r s x).1.length ≤ s.1.length + 2 := by
  unfold stepP
  split
  · split <;> simp
  · split <;> simp
theorem foldP_len (r : Ru) (t : List Ru) (s : List Ru × Bool) : (t.foldl (stepP r) s).1.length ≤ s.1.length + 2 * t.length := by
  induction t generalizing s with
  | nil => simp
  | cons x t ih =>
    rw [List.foldl_cons]
    have h1 := ih (stepP r s x)
    have h2 := stepP_len r s x
    simp only [List.length_cons]
    omega
theorem foldP_succ {r : Ru} {t : List Ru} {k : Nat} {x : Ru} (hx : t[k]? = some x) (s : List Ru × Bool) : (t.take (k + 1)).foldl (stepP r) s = stepP r ((t.take k).foldl (stepP r) s) x := by
  rw [List.take_add_one, hx, List.foldl_append]; rfl
end Go.Proofs.Ytghgegghlefclaa

/- Walks: Put of the specification: the walk. -/
namespace Go.Proofs.Ytghgegghlefclaa
open Go.RowKit
set_option maxHeartbeats 4000000
set_option maxRecDepth 8000
theorem wr_rule (x : Wr) {j : Nat} {v : Value} (hv : (ruC x.rule).toList[j]? = some v) : (wrC x)[3 + j]? = some v := by
  rw [Nat.add_comm]; simpa [wrC, wrL, ruC] using hv
theorem newO_no {w : World} {O : Option Nat} (h : NewO w none O) (i : Nat) (hi : i < w.heap.size) (e : some i = O) : False := by
  rcases h with h | ⟨g, h, hg⟩
  · rw [h] at e; cases e
  · rw [h] at e; cases e; omega
theorem newO_old {w w' : World} {O : Option Nat} (hs : w.heap.size ≤ w'.heap.size) (h : NewO w' none O) : NewO w none O := h.imp (fun h => h) (fun ⟨g, h, hg⟩ => ⟨g, h, by omega⟩)
theorem putT_of {t u : List Ru} {x : Wr} (h3 : x.kind ≠ 3) (h : u = putU t x) (room : Int) : (((u.length : Nat) : Int) ≤ room → putT t room x = u ∧ putOk t room x = true) ∧ (¬ ((u.length : Nat) : Int) ≤ room → putT t room x = t ∧ putOk t room x = false) := by
  subst h
  have e : putOk t room x = decide (((putU t x).length : Int) ≤ room) := by unfold putOk; simp [h3]
  refine ⟨fun h => ?_, fun h => ?_⟩
  · have e1 : putOk t room x = true := by rw [e]; simpa using h
    exact ⟨by unfold putT; rw [if_pos e1], e1⟩
  · have e1 : putOk t room x = false := by rw [e]; simpa using h
    exact ⟨by unfold putT; rw [if_neg (by rw [e1]; simp)], e1⟩
theorem rput_ok (v : Value) (t : List Ru) (M : Nat → Prop) (room : Int) (x : Wr) (w : World) (h : RdS w M 23 ERu v t) (hM : ∀ i, M i → i < w.heap.size) (hd : DecT t) (hl : t.length ≤ 10000) :
    Calls Try.prog 29 #[v, .int .i64 room, .agg (wrC x)] w fun e w' => ∃ a cap, e = .returned (.tuple #[.slice a (putT t room x).length cap, .bool (putOk t room x)]) ∧ RdS w' M 23 ERu (.slice a (putT t room x).length cap) (putT t room x) ∧ Kept NoM w w' := by
  obtain ⟨a, cap, rfl, _, _⟩ := h.shape
  have HH := Lib.hid h
  have HM := Lib.hid hM
  have K0 := Lib.hid ((Kept.refl NoM w).alloc (.cells (wrC x) 41))
  have HW := Lib.hid (blk_new w (.cells (wrC x) 41))
  have x2 := cell_blk HW.out 2 _ (wrC_2 x)
  clear h hM
  by_cases h3 : x.kind = 3
  · have e1 : putOk t room x = true := by unfold putOk; simp [h3]
    have e2 : putT t room x = t := by unfold putT putU; rw [if_pos e1, if_pos h3]
    rw [h3] at x2
    rw [e1, e2]
    clear e1 e2 hd h3
    go_enter Try.func29, Try.ntmps29
    go_wp2_with fail
    go_ret2
    exact ⟨a, cap, rfl, HH.out.kept K0.out.of_no (fun _ _ x => x), K0.out⟩
  · have f3 : (x.kind == 3) = false := by simpa using h3
    have PU := Lib.hid (putU_fold hd h3)
    have H3 := Lib.hid h3
    have hdk : (x.kind == 2) = decide (x.kind = 2) := by rw [Bool.eq_iff_iff]; simp
    clear hd h3
    go_enter Try.func29, Try.ntmps29
    go_wp2_with fail

    clear hdk
    have s0 : (t.take 0).foldl (stepP x.rule) ([], decide (x.kind = 2)) = ([], decide (x.kind = 2)) := rfl
    generalize hk2 : decide (x.kind = 2) = rem at *
    go_loopw [8, 9, 10] (fun v dn i wr => ∃ (k : Nat) (a1 : Option Addr) (n cap1 : Nat) (O : Option Nat) (l : List Ru) (b : Bool), k ≤ t.length ∧ i = .int .i64 k ∧ v = .slice a1 n cap1 ∧ dn = .bool b ∧ l.length = n ∧ Hid ((t.take k).foldl (stepP x.rule) ([], rem) = (l, b)) ∧ Hid (OwnS wr O 39 23 ERu (.slice a1 n cap1) l) ∧ Hid (NewO (w.alloc (.cells (wrC x) 41)) none O) ∧ Hid (Kept NoM (w.alloc (.cells (wrC x) 41)) wr)) (fun _ _ i _ => t.length - (intOf i).toNat)
    case atStart => exact ⟨0, none, 0, 0, none, [], rem, Nat.zero_le _, rfl, rfl, rfl, rfl, Lib.hid rfl, Lib.hid (OwnS.nil _ _ _ _), Lib.hid (NewO.refl _ _), Lib.hid (Kept.refl _ _)⟩
    case round =>
      obtain ⟨k, a1, n, cap1, O, l, b, hk, rfl, rfl, rfl, hn, hF, hO, hN, hK⟩ := hrel
      have hn2 : n ≤ 2 * t.length := by
        have := foldP_len x.rule (t.take k) ([], rem)
        rw [hF.out, List.length_take] at this
        simp only [List.length_nil, Nat.zero_add] at this
        have h2 : min k t.length ≤ t.length := Nat.min_le_right _ _
        omega
      have HBR := Lib.hid (hK.out.blk HW.out (fun x => x))
      have hlt0 := lt_of_block HBR.out
      have KR := Lib.hid (K0.out.trans hK.out)
      have hO0 : Hid (∀ i, i < (w.alloc (.cells (wrC x) 41)).heap.size → ¬ some i = O) := Lib.hid (fun i hi e => by
        rcases hN.out with h | ⟨g, h, hg⟩
        · rw [h] at e; cases e
        · rw [h] at e; cases e; omega)
      by_cases hlt : k < t.length
      · have hki : (k : Int) < t.length := by omega
        obtain ⟨y, hy⟩ := getAt hlt
        obtain ⟨b0, off, e1, _, hc⟩ := ru_at (HH.out.kept KR.out.of_no (fun _ _ x => x)) hy
        subst e1
        have HC := Lib.hid hc
        have HY := Lib.hid hy
        have HS := Lib.hid ((foldP_succ hy ([], rem)).trans (by rw [hF.out]))
        have y0 := range_cell hc 0 _ (ruC_0 y)
        simp only [Nat.add_zero] at y0
        have x3 := cell_blk HBR.out 3 _ (wrC_3 x)
        clear hc hy
        cases b with
        | true =>
          by_cases hp : y.pri = x.rule.pri
          · have f4 : (y.pri != x.rule.pri) = false := by simpa using hp
            have HS2 : Hid ((t.take (k + 1)).foldl (stepP x.rule) ([], rem) = (l, true)) := Lib.hid (HS.out.trans (by unfold stepP; simp only []; simp [hp]))
            clear hp
            go_wp2_with fail
            go_quiet (fail)
            generalize hWD : World.drewN wr _ = wd1
            have KD1 := Lib.hid (show Kept NoM wr wd1 from hWD ▸ (Kept.refl NoM wr).drewN _)
            clear hWD
            have HB1 := Lib.hid (KD1.out.blk HBR.out (fun x => x))
            have x31 := cell_blk HB1.out 3 _ (wrC_3 x)
            have HC1 : Hid (wd1.rangeAt b0 (off + k * 23) (ruC y).toList) := Lib.hid (fun j v hv => KD1.out.cell (HC.out j v hv) (fun x => x))
            have y01 := range_cell HC1.out 0 _ (ruC_0 y)
            simp only [Nat.add_zero] at y01
            have R1 := Lib.hid (hK.out.trans KD1.out)
            have Q1 := Lib.hid (hO.out.kept KD1.out (fun _ _ x => x) (fun _ _ x => x))
            go_wp2_with fail
            go_quiet (fail)
            generalize hWD : World.drewN wd1 _ = wd2
            have KD2 := Lib.hid (show Kept NoM wd1 wd2 from hWD ▸ (Kept.refl NoM wd1).drewN _)
            clear hWD
            have HB2 := Lib.hid (KD2.out.blk HB1.out (fun x => x))
            have x32 := cell_blk HB2.out 3 _ (wrC_3 x)
            have HC2 : Hid (wd2.rangeAt b0 (off + k * 23) (ruC y).toList) := Lib.hid (fun j v hv => KD2.out.cell (HC1.out j v hv) (fun x => x))
            have y02 := range_cell HC2.out 0 _ (ruC_0 y)
            simp only [Nat.add_zero] at y02
            have R2 := Lib.hid (R1.out.trans KD2.out)
            have Q2 := Lib.hid (Q1.out.kept KD2.out (fun _ _ x => x) (fun _ _ x => x))
            go_wp2_with fail
            go_roundw
            case rel => exact ⟨k + 1, a1, n, cap1, O, l, true, by omega, by go_num, rfl, rfl, hn, HS2, Lib.hid Q2.out, hN, Lib.hid R2.out⟩
            case measure => simp [intOf]; omega
          · have f4 : (y.pri != x.rule.pri) = true := by simpa using hp
            have HS2 : Hid ((t.take (k + 1)).foldl (stepP x.rule) ([], rem) = (l ++ [y], true)) := Lib.hid (HS.out.trans (by unfold stepP; simp only []; simp [hp]))
            clear hp
            go_wp2_with fail
            go_quiet (fail)
            generalize hWD : World.drewN wr _ = wd1
            have KD1 := Lib.hid (show Kept NoM wr wd1 from hWD ▸ (Kept.refl NoM wr).drewN _)
            clear hWD
            have HB1 := Lib.hid (KD1.out.blk HBR.out (fun x => x))
            have x31 := cell_blk HB1.out 3 _ (wrC_3 x)
            have HC1 : Hid (wd1.rangeAt b0 (off + k * 23) (ruC y).toList) := Lib.hid (fun j v hv => KD1.out.cell (HC.out j v hv) (fun x => x))
            have y01 := range_cell HC1.out 0 _ (ruC_0 y)
            simp only [Nat.add_zero] at y01
            have R1 := Lib.hid (hK.out.trans KD1.out)
            have Q1 := Lib.hid (hO.out.kept KD1.out (fun _ _ x => x) (fun _ _ x => x))
            go_wp2_with fail
            go_quiet (fail)
            generalize hWD : World.drewN wd1 _ = wd2
            have KD2 := Lib.hid (show Kept NoM wd1 wd2 from hWD ▸ (Kept.refl NoM wd1).drewN _)
            clear hWD
            have HB2 := Lib.hid (KD2.out.blk HB1.out (fun x => x))
            have x32 := cell_blk HB2.out 3 _ (wrC_3 x)
            have HC2 : Hid (wd2.rangeAt b0 (off + k * 23) (ruC y).toList) := Lib.hid (fun j v hv => KD2.out.cell (HC1.out j v hv) (fun x => x))
            have y02 := range_cell HC2.out 0 _ (ruC_0 y)
            simp only [Nat.add_zero] at y02
            have R2 := Lib.hid (R1.out.trans KD2.out)
            have Q2 := Lib.hid (Q1.out.kept KD2.out (fun _ _ x => x) (fun _ _ x => x))
            have HR3 := Lib.hid (rd_one (M := NoM) (sz := 23) (E := ERu) (x := y) (blk_new wd2 (.cells (ruC y) 39)) (fun x => x) rfl rfl)
            have KI3 := Lib.hid ((Kept.refl NoM wd2).alloc (.cells (ruC y) 39))
            have OA3 := Lib.hid (Q2.out.kept KI3.out (fun _ _ x => x) (fun _ _ x => x))
            go_wp2_with (first | (refine wpList_load_big bigRu rfl _ rfl b0 (off + k * 23) (ruC y) rfl HC2.out rfl ?_) | (at_builtin; refine wpList_append_S (M := NoM) rfl (.tmp 51) (.tmp 56) 23 rfl 200 tyTable _ rfl OA3.out _ rfl HR3.out eRu_one (n) 1 hn rfl (by unfold maxLen; omega) (by omega) ?_; intro a3 cap3 w3 O3 hown hkk hnn; have OW3 := Lib.hid hown; have KK3 := Lib.hid hkk; have NN3 := Lib.hid hnn; clear hown hkk hnn))
            have KA3 : Hid (Kept (fun k => some k = O) wd2 w3) := Lib.hid (KI3.out.of_no.trans KK3.out)
            have R3 : Hid (Kept NoM (w.alloc (.cells (wrC x) 41)) w3) := Lib.hid (R2.out.trans' KA3.out (fun i hi e => newO_no hN.out i hi e))
            have N3' : Hid (NewO (w.alloc (.cells (wrC x) 41)) none O3) := Lib.hid (hN.out.trans NN3.out (Nat.le_trans R2.out.size KI3.out.size))
            have HB3 := Lib.hid (R3.out.blk HW.out (fun x => x))
            have x33 := cell_blk HB3.out 3 _ (wrC_3 x)
            have KY3 := Lib.hid (K0.out.trans R3.out)
            have HC3 : Hid (w3.rangeAt b0 (off + k * 23) (ruC y).toList) := Lib.hid (by
              obtain ⟨b', off', e1, _, hc⟩ := ru_at (HH.out.kept KY3.out.of_no (fun _ _ x => x)) HY.out
              simp only [Option.some.injEq, Addr.mk.injEq, and_true] at e1
              obtain ⟨rfl, rfl⟩ := e1
              exact hc)
            have y03 := range_cell HC3.out 0 _ (ruC_0 y)
            simp only [Nat.add_zero] at y03
            have hn3 : (l ++ [y]).length = n + 1 := by rw [List.length_append, hn]; rfl
            go_roundw
            case rel => exact ⟨k + 1, a3, n + 1, cap3, O3, l ++ [y], true, by omega, by go_num, rfl, rfl, hn3, HS2, Lib.hid OW3.out, N3', Lib.hid R3.out⟩
            case measure => simp [intOf]; omega
        | false =>
          by_cases hle : y.pri ≤ x.rule.pri
          · by_cases hp : y.pri = x.rule.pri
            · have f4 : (y.pri != x.rule.pri) = false := by simpa using hp
              have HS2 : Hid ((t.take (k + 1)).foldl (stepP x.rule) ([], rem) = (l ++ [x.rule], true)) := Lib.hid (HS.out.trans (by unfold stepP; simp only []; simp [hp]))
              clear hp
              go_wp2_with fail
              go_quiet (fail)
              generalize hWD : World.drewN wr _ = wd1
              have KD1 := Lib.hid (show Kept NoM wr wd1 from hWD ▸ (Kept.refl NoM wr).drewN _)
              clear hWD
              have HB1 := Lib.hid (KD1.out.blk HBR.out (fun x => x))
              have x31 := cell_blk HB1.out 3 _ (wrC_3 x)
              have HC1 : Hid (wd1.rangeAt b0 (off + k * 23) (ruC y).toList) := Lib.hid (fun j v hv => KD1.out.cell (HC.out j v hv) (fun x => x))
              have y01 := range_cell HC1.out 0 _ (ruC_0 y)
              simp only [Nat.add_zero] at y01
              have R1 := Lib.hid (hK.out.trans KD1.out)
              have Q1 := Lib.hid (hO.out.kept KD1.out (fun _ _ x => x) (fun _ _ x => x))
              have HR2 := Lib.hid (rd_one (M := NoM) (sz := 23) (E := ERu) (x := x.rule) (blk_new wd1 (.cells (ruC x.rule) 39)) (fun x => x) rfl rfl)
              have KI2 := Lib.hid ((Kept.refl NoM wd1).alloc (.cells (ruC x.rule) 39))
              have OA2 := Lib.hid (Q1.out.kept KI2.out (fun _ _ x => x) (fun _ _ x => x))
              go_wp2_with (first | (refine wpList_load_big bigRu rfl _ rfl w.heap.size 3 (ruC x.rule) rfl (fun j v hv => cell_blk HB1.out (3 + j) v (wr_rule x hv)) rfl ?_) | (at_builtin; refine wpList_append_S (M := NoM) rfl (.tmp 37) (.tmp 40) 23 rfl 200 tyTable _ rfl OA2.out _ rfl HR2.out eRu_one (n) 1 hn rfl (by unfold maxLen; omega) (by omega) ?_; intro a2 cap2 w2 O2 hown hkk hnn; have OW2 := Lib.hid hown; have KK2 := Lib.hid hkk; have NN2 := Lib.hid hnn; clear hown hkk hnn))
              have KA2 : Hid (Kept (fun k => some k = O) wd1 w2) := Lib.hid (KI2.out.of_no.trans KK2.out)
              have R2 : Hid (Kept NoM (w.alloc (.cells (wrC x) 41)) w2) := Lib.hid (R1.out.trans' KA2.out (fun i hi e => newO_no hN.out i hi e))
              have N2' : Hid (NewO (w.alloc (.cells (wrC x) 41)) none O2) := Lib.hid (hN.out.trans NN2.out (Nat.le_trans R1.out.size KI2.out.size))
              have HB2 := Lib.hid (R2.out.blk HW.out (fun x => x))
              have x32 := cell_blk HB2.out 3 _ (wrC_3 x)
              have KY2 := Lib.hid (K0.out.trans R2.out)
              have HC2 : Hid (w2.rangeAt b0 (off + k * 23) (ruC y).toList) := Lib.hid (by
                obtain ⟨b', off', e1, _, hc⟩ := ru_at (HH.out.kept KY2.out.of_no (fun _ _ x => x)) HY.out
                simp only [Option.some.injEq, Addr.mk.injEq, and_true] at e1
                obtain ⟨rfl, rfl⟩ := e1
                exact hc)
              have y02 := range_cell HC2.out 0 _ (ruC_0 y)
              simp only [Nat.add_zero] at y02
              have hn2 : (l ++ [x.rule]).length = n + 1 := by rw [List.length_append, hn]; rfl
              go_quiet (fail)
              generalize hWD : World.drewN w2 _ = wd3
              have KD3 := Lib.hid (show Kept NoM w2 wd3 from hWD ▸ (Kept.refl NoM w2).drewN _)
              clear hWD
              have HB3 := Lib.hid (KD3.out.blk HB2.out (fun x => x))
              have x33 := cell_blk HB3.out 3 _ (wrC_3 x)
              have HC3 : Hid (wd3.rangeAt b0 (off + k * 23) (ruC y).toList) := Lib.hid (fun j v hv => KD3.out.cell (HC2.out j v hv) (fun x => x))
              have y03 := range_cell HC3.out 0 _ (ruC_0 y)
              simp only [Nat.add_zero] at y03
              have R3 := Lib.hid (R2.out.trans KD3.out)
              have Q3 := Lib.hid (OW2.out.kept KD3.out (fun _ _ x => x) (fun _ _ x => x))
              go_wp2_with fail
              go_roundw
              case rel => exact ⟨k + 1, a2, n + 1, cap2, O2, l ++ [x.rule], true, by omega, by go_num, rfl, rfl, hn2, HS2, Lib.hid Q3.out, N2', Lib.hid R3.out⟩
              case measure => simp [intOf]; omega
            · have f4 : (y.pri != x.rule.pri) = true := by simpa using hp
              have HS2 : Hid ((t.take (k + 1)).foldl (stepP x.rule) ([], rem) = (l ++ [x.rule] ++ [y], true)) := Lib.hid (HS.out.trans (by unfold stepP; simp only []; simp [hp, hle]))
              clear hp
              go_wp2_with fail
              go_quiet (fail)
              generalize hWD : World.drewN wr _ = wd1
              have KD1 := Lib.hid (show Kept NoM wr wd1 from hWD ▸ (Kept.refl NoM wr).drewN _)
              clear hWD
              have HB1 := Lib.hid (KD1.out.blk HBR.out (fun x => x))
              have x31 := cell_blk HB1.out 3 _ (wrC_3 x)
              have HC1 : Hid (wd1.rangeAt b0 (off + k * 23) (ruC y).toList) := Lib.hid (fun j v hv => KD1.out.cell (HC.out j v hv) (fun x => x))
              have y01 := range_cell HC1.out 0 _ (ruC_0 y)
              simp only [Nat.add_zero] at y01
              have R1 := Lib.hid (hK.out.trans KD1.out)
              have Q1 := Lib.hid (hO.out.kept KD1.out (fun _ _ x => x) (fun _ _ x => x))
              have HR2 := Lib.hid (rd_one (M := NoM) (sz := 23) (E := ERu) (x := x.rule) (blk_new wd1 (.cells (ruC x.rule) 39)) (fun x => x) rfl rfl)
              have KI2 := Lib.hid ((Kept.refl NoM wd1).alloc (.cells (ruC x.rule) 39))
              have OA2 := Lib.hid (Q1.out.kept KI2.out (fun _ _ x => x) (fun _ _ x => x))
              go_wp2_with (first | (refine wpList_load_big bigRu rfl _ rfl w.heap.size 3 (ruC x.rule) rfl (fun j v hv => cell_blk HB1.out (3 + j) v (wr_rule x hv)) rfl ?_) | (at_builtin; refine wpList_append_S (M := NoM) rfl (.tmp 37) (.tmp 40) 23 rfl 200 tyTable _ rfl OA2.out _ rfl HR2.out eRu_one (n) 1 hn rfl (by unfold maxLen; omega) (by omega) ?_; intro a2 cap2 w2 O2 hown hkk hnn; have OW2 := Lib.hid hown; have KK2 := Lib.hid hkk; have NN2 := Lib.hid hnn; clear hown hkk hnn))
              have KA2 : Hid (Kept (fun k => some k = O) wd1 w2) := Lib.hid (KI2.out.of_no.trans KK2.out)
              have R2 : Hid (Kept NoM (w.alloc (.cells (wrC x) 41)) w2) := Lib.hid (R1.out.trans' KA2.out (fun i hi e => newO_no hN.out i hi e))
              have N2' : Hid (NewO (w.alloc (.cells (wrC x) 41)) none O2) := Lib.hid (hN.out.trans NN2.out (Nat.le_trans R1.out.size KI2.out.size))
              have HB2 := Lib.hid (R2.out.blk HW.out (fun x => x))
              have x32 := cell_blk HB2.out 3 _ (wrC_3 x)
              have KY2 := Lib.hid (K0.out.trans R2.out)
              have HC2 : Hid (w2.rangeAt b0 (off + k * 23) (ruC y).toList) := Lib.hid (by
                obtain ⟨b', off', e1, _, hc⟩ := ru_at (HH.out.kept KY2.out.of_no (fun _ _ x => x)) HY.out
                simp only [Option.some.injEq, Addr.mk.injEq, and_true] at e1
                obtain ⟨rfl, rfl⟩ := e1
                exact hc)
              have y02 := range_cell HC2.out 0 _ (ruC_0 y)
              simp only [Nat.add_zero] at y02
              have hn2 : (l ++ [x.rule]).length = n + 1 := by rw [List.length_append, hn]; rfl
              go_quiet (fail)
              generalize hWD : World.drewN w2 _ = wd3
              have KD3 := Lib.hid (show Kept NoM w2 wd3 from hWD ▸ (Kept.refl NoM w2).drewN _)
              clear hWD
              have HB3 := Lib.hid (KD3.out.blk HB2.out (fun x => x))
              have x33 := cell_blk HB3.out 3 _ (wrC_3 x)
              have HC3 : Hid (wd3.rangeAt b0 (off + k * 23) (ruC y).toList) := Lib.hid (fun j v hv => KD3.out.cell (HC2.out j v hv) (fun x => x))
              have y03 := range_cell HC3.out 0 _ (ruC_0 y)
              simp only [Nat.add_zero] at y03
              have R3 := Lib.hid (R2.out.trans KD3.out)
              have Q3 := Lib.hid (OW2.out.kept KD3.out (fun _ _ x => x) (fun _ _ x => x))
              have HR4 := Lib.hid (rd_one (M := NoM) (sz := 23) (E := ERu) (x := y) (blk_new wd3 (.cells (ruC y) 39)) (fun x => x) rfl rfl)
              have KI4 := Lib.hid ((Kept.refl NoM wd3).alloc (.cells (ruC y) 39))
              have OA4 := Lib.hid (Q3.out.kept KI4.out (fun _ _ x => x) (fun _ _ x => x))
              go_wp2_with (first | (refine wpList_load_big bigRu rfl _ rfl b0 (off + k * 23) (ruC y) rfl HC3.out rfl ?_) | (at_builtin; refine wpList_append_S (M := NoM) rfl (.tmp 51) (.tmp 56) 23 rfl 200 tyTable _ rfl OA4.out _ rfl HR4.out eRu_one (n + 1) 1 hn2 rfl (by unfold maxLen; omega) (by omega) ?_; intro a4 cap4 w4 O4 hown hkk hnn; have OW4 := Lib.hid hown; have KK4 := Lib.hid hkk; have NN4 := Lib.hid hnn; clear hown hkk hnn))
              have KA4 : Hid (Kept (fun k => some k = O2) wd3 w4) := Lib.hid (KI4.out.of_no.trans KK4.out)
              have R4 : Hid (Kept NoM (w.alloc (.cells (wrC x) 41)) w4) := Lib.hid (R3.out.trans' KA4.out (fun i hi e => newO_no N2'.out i hi e))
              have N4' : Hid (NewO (w.alloc (.cells (wrC x) 41)) none O4) := Lib.hid (N2'.out.trans NN4.out (Nat.le_trans R3.out.size KI4.out.size))
              have HB4 := Lib.hid (R4.out.blk HW.out (fun x => x))
              have x34 := cell_blk HB4.out 3 _ (wrC_3 x)
              have KY4 := Lib.hid (K0.out.trans R4.out)
              have HC4 : Hid (w4.rangeAt b0 (off + k * 23) (ruC y).toList) := Lib.hid (by
                obtain ⟨b', off', e1, _, hc⟩ := ru_at (HH.out.kept KY4.out.of_no (fun _ _ x => x)) HY.out
                simp only [Option.some.injEq, Addr.mk.injEq, and_true] at e1
                obtain ⟨rfl, rfl⟩ := e1
                exact hc)
              have y04 := range_cell HC4.out 0 _ (ruC_0 y)
              simp only [Nat.add_zero] at y04
              have hn4 : (l ++ [x.rule] ++ [y]).length = n + 1 + 1 := by rw [List.length_append, hn2]; rfl
              go_roundw
              case rel => exact ⟨k + 1, a4, n + 1 + 1, cap4, O4, l ++ [x.rule] ++ [y], true, by omega, by go_num, rfl, rfl, hn4, HS2, Lib.hid OW4.out, N4', Lib.hid R4.out⟩
              case measure => simp [intOf]; omega
          · have hp : ¬ y.pri = x.rule.pri := by omega
            have f4 : (y.pri != x.rule.pri) = true := by simpa using hp
            have HS2 : Hid ((t.take (k + 1)).foldl (stepP x.rule) ([], rem) = (l ++ [y], false)) := Lib.hid (HS.out.trans (by unfold stepP; simp only []; rw [if_neg (by rintro ⟨_, h⟩; have h : y.pri ≤ x.rule.pri := h; omega), if_neg hp]))
            clear hp
            go_wp2_with fail
            go_quiet (fail)
            generalize hWD : World.drewN wr _ = wd1
            have KD1 := Lib.hid (show Kept NoM wr wd1 from hWD ▸ (Kept.refl NoM wr).drewN _)
            clear hWD
            have HB1 := Lib.hid (KD1.out.blk HBR.out (fun x => x))
            have x31 := cell_blk HB1.out 3 _ (wrC_3 x)
            have HC1 : Hid (wd1.rangeAt b0 (off + k * 23) (ruC y).toList) := Lib.hid (fun j v hv => KD1.out.cell (HC.out j v hv) (fun x => x))
            have y01 := range_cell HC1.out 0 _ (ruC_0 y)
            simp only [Nat.add_zero] at y01
            have R1 := Lib.hid (hK.out.trans KD1.out)
            have Q1 := Lib.hid (hO.out.kept KD1.out (fun _ _ x => x) (fun _ _ x => x))
            go_wp2_with fail
            go_quiet (fail)
            generalize hWD : World.drewN wd1 _ = wd2
            have KD2 := Lib.hid (show Kept NoM wd1 wd2 from hWD ▸ (Kept.refl NoM wd1).drewN _)
            clear hWD
            have HB2 := Lib.hid (KD2.out.blk HB1.out (fun x => x))
            have x32 := cell_blk HB2.out 3 _ (wrC_3 x)
            have HC2 : Hid (wd2.rangeAt b0 (off + k * 23) (ruC y).toList) := Lib.hid (fun j v hv => KD2.out.cell (HC1.out j v hv) (fun x => x))
            have y02 := range_cell HC2.out 0 _ (ruC_0 y)
            simp only [Nat.add_zero] at y02
            have R2 := Lib.hid (R1.out.trans KD2.out)
            have Q2 := Lib.hid (Q1.out.kept KD2.out (fun _ _ x => x) (fun _ _ x => x))
            have HR3 := Lib.hid (rd_one (M := NoM) (sz := 23) (E := ERu) (x := y) (blk_new wd2 (.cells (ruC y) 39)) (fun x => x) rfl rfl)
            have KI3 := Lib.hid ((Kept.refl NoM wd2).alloc (.cells (ruC y) 39))
            have OA3 := Lib.hid (Q2.out.kept KI3.out (fun _ _ x => x) (fun _ _ x => x))
            go_wp2_with (first | (refine wpList_load_big bigRu rfl _ rfl b0 (off + k * 23) (ruC y) rfl HC2.out rfl ?_) | (at_builtin; refine wpList_append_S (M := NoM) rfl (.tmp 51) (.tmp 56) 23 rfl 200 tyTable _ rfl OA3.out _ rfl HR3.out eRu_one (n) 1 hn rfl (by unfold maxLen; omega) (by omega) ?_; intro a3 cap3 w3 O3 hown hkk hnn; have OW3 := Lib.hid hown; have KK3 := Lib.hid hkk; have NN3 := Lib.hid hnn; clear hown hkk hnn))
            have KA3 : Hid (Kept (fun k => some k = O) wd2 w3) := Lib.hid (KI3.out.of_no.trans KK3.out)
            have R3 : Hid (Kept NoM (w.alloc (.cells (wrC x) 41)) w3) := Lib.hid (R2.out.trans' KA3.out (fun i hi e => newO_no hN.out i hi e))
            have N3' : Hid (NewO (w.alloc (.cells (wrC x) 41)) none O3) := Lib.hid (hN.out.trans NN3.out (Nat.le_trans R2.out.size KI3.out.size))
            have HB3 := Lib.hid (R3.out.blk HW.out (fun x => x))
            have x33 := cell_blk HB3.out 3 _ (wrC_3 x)
            have KY3 := Lib.hid (K0.out.trans R3.out)
            have HC3 : Hid (w3.rangeAt b0 (off + k * 23) (ruC y).toList) := Lib.hid (by
              obtain ⟨b', off', e1, _, hc⟩ := ru_at (HH.out.kept KY3.out.of_no (fun _ _ x => x)) HY.out
              simp only [Option.some.injEq, Addr.mk.injEq, and_true] at e1
              obtain ⟨rfl, rfl⟩ := e1
              exact hc)
            have y03 := range_cell HC3.out 0 _ (ruC_0 y)
            simp only [Nat.add_zero] at y03
            have hn3 : (l ++ [y]).length = n + 1 := by rw [List.length_append, hn]; rfl
            go_roundw
            case rel => exact ⟨k + 1, a3, n + 1, cap3, O3, l ++ [y], false, by omega, by go_num, rfl, rfl, hn3, HS2, Lib.hid OW3.out, N3', Lib.hid R3.out⟩
            case measure => simp [intOf]; omega
      · obtain rfl : k = t.length := by omega
        have f1 := decide_eq_false (show ¬ ((t.length : Nat) : Int) < t.length by omega)
        have f2 := decide_eq_false (show ¬ t.length < t.length by omega)
        have PU2 := Lib.hid (show endP x.rule (l, b) = putU t x by rw [← PU.out, ← hF.out, List.take_length])
        unfold endP at PU2
        cases b with
        | true =>
          by_cases hr : (n : Int) > room
          · have PT := Lib.hid (putT_of H3.out (show l = putU t x from PU2.out) room)
            have hln : (l.length : Int) = n := by omega
            have PV := Lib.hid (PT.out.2 (show ¬ ((l.length : Nat) : Int) ≤ room by omega))
            clear PT hln
            go_wp2_with fail
            go_ret2
            rw [PV.out.1, PV.out.2]
            exact ⟨a, cap, rfl, HH.out.kept (K0.out.trans hK.out).of_no (fun _ _ x => x), K0.out.trans hK.out⟩
          · have PT := Lib.hid (putT_of H3.out (show l = putU t x from PU2.out) room)
            have hln : (l.length : Int) = n := by omega
            have PV := Lib.hid (PT.out.1 (show ((l.length : Nat) : Int) ≤ room by omega))
            clear PT hln
            go_wp2_with fail
            go_ret2
            rw [PV.out.1, PV.out.2, hn]
            exact ⟨a1, cap1, rfl, hO.out.out (newO_old (by simp) hN.out) HM.out, K0.out.trans hK.out⟩
        | false =>
          by_cases hr : ((n + 1 : Nat) : Int) > room
          · have PT := Lib.hid (putT_of H3.out (show l ++ [x.rule] = putU t x from PU2.out) room)
            have hln : ((l ++ [x.rule]).length : Int) = n + 1 := by rw [List.length_append, hn]; simp
            have PV := Lib.hid (PT.out.2 (show ¬ (((l ++ [x.rule]).length : Nat) : Int) ≤ room by omega))
            clear PT hln
            have HR1 := Lib.hid (rd_one (M := NoM) (sz := 23) (E := ERu) (x := x.rule) (blk_new wr (.cells (ruC x.rule) 39)) (fun x => x) rfl rfl)
            have KI1 := Lib.hid ((Kept.refl NoM wr).alloc (.cells (ruC x.rule) 39))
            have OA1 := Lib.hid (hO.out.kept KI1.out (fun _ _ x => x) (fun _ _ x => x))
            go_wp2_with (first | (refine wpList_load_big bigRu rfl _ rfl w.heap.size 3 (ruC x.rule) rfl (fun j v hv => cell_blk HBR.out (3 + j) v (wr_rule x hv)) rfl ?_) | (at_builtin; refine wpList_append_S (M := NoM) rfl (.tmp 60) (.tmp 63) 23 rfl 200 tyTable _ rfl OA1.out _ rfl HR1.out eRu_one (n) 1 hn rfl (by unfold maxLen; omega) (by omega) ?_; intro a1 cap1 w1 O1 hown hkk hnn; have OW1 := Lib.hid hown; have KK1 := Lib.hid hkk; have NN1 := Lib.hid hnn; clear hown hkk hnn))
            have KA1 : Hid (Kept (fun k => some k = O) wr w1) := Lib.hid (KI1.out.of_no.trans KK1.out)
            have R1 : Hid (Kept NoM (w.alloc (.cells (wrC x) 41)) w1) := Lib.hid (hK.out.trans' KA1.out (fun i hi e => newO_no hN.out i hi e))
            have N1' : Hid (NewO (w.alloc (.cells (wrC x) 41)) none O1) := Lib.hid (hN.out.trans NN1.out (Nat.le_trans hK.out.size KI1.out.size))
            have HB1 := Lib.hid (R1.out.blk HW.out (fun x => x))
            have x31 := cell_blk HB1.out 3 _ (wrC_3 x)
            have hn1 : (l ++ [x.rule]).length = n + 1 := by rw [List.length_append, hn]; rfl
            go_ret2
            rw [PV.out.1, PV.out.2]
            exact ⟨a, cap, rfl, HH.out.kept (K0.out.trans R1.out).of_no (fun _ _ x => x), K0.out.trans R1.out⟩
          · have PT := Lib.hid (putT_of H3.out (show l ++ [x.rule] = putU t x from PU2.out) room)
            have hln : ((l ++ [x.rule]).length : Int) = n + 1 := by rw [List.length_append, hn]; simp
            have PV := Lib.hid (PT.out.1 (show (((l ++ [x.rule]).length : Nat) : Int) ≤ room by omega))
            clear PT hln
            have HR1 := Lib.hid (rd_one (M := NoM) (sz := 23) (E := ERu) (x := x.rule) (blk_new wr (.cells (ruC x.rule) 39)) (fun x => x) rfl rfl)
            have KI1 := Lib.hid ((Kept.refl NoM wr).alloc (.cells (ruC x.rule) 39))
            have OA1 := Lib.hid (hO.out.kept KI1.out (fun _ _ x => x) (fun _ _ x => x))
            go_wp2_with (first | (refine wpList_load_big bigRu rfl _ rfl w.heap.size 3 (ruC x.rule) rfl (fun j v hv => cell_blk HBR.out (3 + j) v (wr_rule x hv)) rfl ?_) | (at_builtin; refine wpList_append_S (M := NoM) rfl (.tmp 60) (.tmp 63) 23 rfl 200 tyTable _ rfl OA1.out _ rfl HR1.out eRu_one (n) 1 hn rfl (by unfold maxLen; omega) (by omega) ?_; intro a1 cap1 w1 O1 hown hkk hnn; have OW1 := Lib.hid hown; have KK1 := Lib.hid hkk; have NN1 := Lib.hid hnn; clear hown hkk hnn))
            have KA1 : Hid (Kept (fun k => some k = O) wr w1) := Lib.hid (KI1.out.of_no.trans KK1.out)
            have R1 : Hid (Kept NoM (w.alloc (.cells (wrC x) 41)) w1) := Lib.hid (hK.out.trans' KA1.out (fun i hi e => newO_no hN.out i hi e))
            have N1' : Hid (NewO (w.alloc (.cells (wrC x) 41)) none O1) := Lib.hid (hN.out.trans NN1.out (Nat.le_trans hK.out.size KI1.out.size))
            have HB1 := Lib.hid (R1.out.blk HW.out (fun x => x))
            have x31 := cell_blk HB1.out 3 _ (wrC_3 x)
            have hn1 : (l ++ [x.rule]).length = n + 1 := by rw [List.length_append, hn]; rfl
            go_ret2
            rw [PV.out.1, PV.out.2, hn1]
            exact ⟨a1, cap1, rfl, OW1.out.out (newO_old (by simp) N1'.out) HM.out, K0.out.trans R1.out⟩
end Go.Proofs.Ytghgegghlefclaa


/- What stands in memory while a device does a write. -/
namespace Go.Proofs.Ytghgegghlefclaa
open Go.RowKit
set_option maxRecDepth 8000
def BX (M : Nat → Prop) (D Z X A : Nat) : Nat → Prop := fun i => M i ∨ i = D ∨ i = Z ∨ i = X ∨ i = A
def akC (x : Wr) (e : Int) : Array Value := #[.int .i64 x.ep, .int .i64 x.seq, .int .i64 e]
structure DoSt (w : World) (M : Nat → Prop) (x : Wr) (D Z X A : Nat) (W : World) (d : Dev) (e : Int) (ta qa da la : Option Addr) (tc qc dc lc : Nat) : Prop where
  hd : W.heap[D]? = some (.cells (devC d ta tc qa qc da dc la lc) 27 (0, 0))
  hz : W.heap[Z]? = some (.cells devZC 27 (0, 0))
  hx : W.heap[X]? = some (.cells (wrC x) 41 (0, 0))
  ha : W.heap[A]? = some (.cells (akC x e) 60 (0, 0))
  rd : DevR W (BX M D Z X A) d ta tc qa qc da dc la lc
  kp : Kept NoM w W
  dw : D = w.heap.size
  zw : Z = w.heap.size + 1
  xw : w.heap.size + 2 ≤ X
  aw : X < A
section
variable {w : World} {M : Nat → Prop} {x : Wr} {D Z X A : Nat} {W W' : World} {d : Dev} {e : Int} {ta qa da la : Option Addr} {tc qc dc lc : Nat}
theorem DoSt.kept (h : DoSt w M x D Z X A W d e ta qa da la tc qc dc lc) (k : Kept NoM W W') : DoSt w M x D Z X A W' d e ta qa da la tc qc dc lc :=
  ⟨k.blk h.hd (fun x => x), k.blk h.hz (fun x => x), k.blk h.hx (fun x => x), k.blk h.ha (fun x => x), h.rd.kept k.of_no, h.kp.trans k, h.dw, h.zw, h.xw, h.aw⟩
/-- a change of blocks that came later -/
theorem DoSt.own {O : Option Nat} (h : DoSt w M x D Z X A W d e ta qa da la tc qc dc lc) (hn : NewO W none O) {W0 : World} (hs : Kept NoM W W0) (k : Kept (fun i => some i = O) W0 W') : DoSt w M x D Z X A W' d e ta qa da la tc qc dc lc :=
  h.kept (hs.trans' k (fun i hi e => newO_no hn i hi e))
/-- what is kept by changes of the boxes -/
theorem DoSt.box (h : DoSt w M x D Z X A W d e ta qa da la tc qc dc lc) (i : Nat) (v : Value) : Kept (BX M D Z X A) W (W.setCell ⟨D, i, none⟩ v) := (Kept.refl _ _).setCell (fun _ => .inr (.inl rfl)) v
theorem DoSt.boxA (h : DoSt w M x D Z X A W d e ta qa da la tc qc dc lc) (i : Nat) (v : Value) : Kept (BX M D Z X A) W (W.setCell ⟨A, i, none⟩ v) := (Kept.refl _ _).setCell (fun _ => .inr (.inr (.inr (.inr rfl)))) v
theorem DoSt.dsize (h : DoSt w M x D Z X A W d e ta qa da la tc qc dc lc) : A < W.heap.size := lt_of_block h.ha
theorem DoSt.setT {t' : List Ru} {a : Option Addr} {c : Nat} (h : DoSt w M x D Z X A W d e ta qa da la tc qc dc lc) (hr : RdS W (BX M D Z X A) 23 ERu (.slice a t'.length c) t') :
    DoSt w M x D Z X A (W.setCell ⟨D, 2, none⟩ (.slice a t'.length c)) { d with table := t' } e a qa da la c qc dc lc := by
  have kb := h.box 2 (.slice a t'.length c)
  have := h.dw; have := h.zw; have := h.xw; have := h.aw
  exact ⟨(blk_set h.hd _).trans (by simp [devC]), blk_set_ne h.hz (by omega) _, blk_set_ne h.hx (by omega) _, blk_set_ne h.ha (by omega) _,
    ⟨hr.kept kb (fun _ _ x => x), h.rd.rq.kept kb (fun _ _ x => x), h.rd.rd.kept kb (fun _ _ x => x), h.rd.rl.kept kb (fun _ _ x => x)⟩,
    h.kp.setCell (fun hh => absurd hh (by show ¬ D < _; omega)) _, h.dw, h.zw, h.xw, h.aw⟩
theorem DoSt.setDn {t' : List Int} {a : Option Addr} {n c : Nat} (h : DoSt w M x D Z X A W d e ta qa da la tc qc dc lc) (hn : n = t'.length) (hr : RdS W (BX M D Z X A) 1 EInt (.slice a n c) t') :
    DoSt w M x D Z X A (W.setCell ⟨D, 4, none⟩ (.slice a n c)) { d with done := t' } e ta qa a la tc qc c lc := by
  subst hn
  have kb := h.box 4 (.slice a t'.length c)
  have := h.dw; have := h.zw; have := h.xw; have := h.aw
  exact ⟨(blk_set h.hd _).trans (by simp [devC]), blk_set_ne h.hz (by omega) _, blk_set_ne h.hx (by omega) _, blk_set_ne h.ha (by omega) _,
    ⟨h.rd.rt.kept kb (fun _ _ x => x), h.rd.rq.kept kb (fun _ _ x => x), hr.kept kb (fun _ _ x => x), h.rd.rl.kept kb (fun _ _ x => x)⟩,
    h.kp.setCell (fun hh => absurd hh (by show ¬ D < _; omega)) _, h.dw, h.zw, h.xw, h.aw⟩
theorem DoSt.setE (h : DoSt w M x D Z X A W d e ta qa da la tc qc dc lc) (f : Int) :
    DoSt w M x D Z X A (W.setCell ⟨A, 2, none⟩ (.int .i64 f)) d f ta qa da la tc qc dc lc := by
  have kb := h.boxA 2 (.int .i64 f)
  have := h.dw; have := h.zw; have := h.xw; have := h.aw
  exact ⟨blk_set_ne h.hd (by omega) _, blk_set_ne h.hz (by omega) _, blk_set_ne h.hx (by omega) _, (blk_set h.ha _).trans (by simp [akC]),
    ⟨h.rd.rt.kept kb (fun _ _ x => x), h.rd.rq.kept kb (fun _ _ x => x), h.rd.rd.kept kb (fun _ _ x => x), h.rd.rl.kept kb (fun _ _ x => x)⟩,
    h.kp.setCell (fun hh => absurd hh (by show ¬ A < _; omega)) _, h.dw, h.zw, h.xw, h.aw⟩
/-- the state when the queue was cut: the clone's block O came later than the box of the write -/
theorem DoSt.start {w1 w3 w4 : World} {O : Option Nat} {a : Option Addr} {n c k : Nat} (hM : ∀ i, M i → i < w.heap.size) (h : DevR w M d ta tc qa qc da dc la lc)
    (hd : (w1.alloc (.cells (wrC x) 41)).heap[w.heap.size]? = some (.cells (devC d ta tc qa qc da dc la lc) 27 (0, 0)))
    (hz : (w1.alloc (.cells (wrC x) 41)).heap[w.heap.size + 1]? = some (.cells devZC 27 (0, 0))) (k1 : Kept NoM w w1) (hs : w.heap.size + 2 ≤ w1.heap.size)
    (k3 : Kept NoM (w1.alloc (.cells (wrC x) 41)) w3) (hn : NewO (w1.alloc (.cells (wrC x) 41)) none O) (k4 : Kept (fun i => some i = O) w3 w4)
    (ho : OwnS w4 O 41 26 EWr (.slice a n c) (d.queue.eraseIdx k)) (hl : n = (d.queue.eraseIdx k).length) :
    DoSt w M x w.heap.size (w.heap.size + 1) w1.heap.size w4.heap.size ((w4.setCell ⟨w.heap.size, 3, none⟩ (.slice a n c)).alloc (.cells #[.int .i64 x.ep, .int .i64 x.seq, .int .i64 0] 60)) { d with queue := d.queue.eraseIdx k } 0 ta a da la tc c dc lc := by
  subst hl
  have k34 : Kept NoM (w1.alloc (.cells (wrC x) 41)) w4 := k3.trans' k4 (fun i hi e => newO_no hn i hi e)
  have ka : Kept NoM w (w1.alloc (.cells (wrC x) 41)) := k1.alloc _
  have kw4 : Kept NoM w w4 := ka.trans k34
  have s4 := k34.size
  rw [show (w1.alloc (.cells (wrC x) 41)).heap.size = w1.heap.size + 1 by simp] at s4
  have ke : Kept NoM w ((w4.setCell ⟨w.heap.size, 3, none⟩ (.slice a (d.queue.eraseIdx k).length c)).alloc (.cells #[.int .i64 x.ep, .int .i64 x.seq, .int .i64 0] 60)) := (kw4.setCell (fun hh => absurd hh (Nat.lt_irrefl _)) _).alloc _
  have hb : Kept (BX M w.heap.size (w.heap.size + 1) w1.heap.size w4.heap.size) w4 ((w4.setCell ⟨w.heap.size, 3, none⟩ (.slice a (d.queue.eraseIdx k).length c)).alloc (.cells #[.int .i64 x.ep, .int .i64 x.seq, .int .i64 0] 60)) := ((Kept.refl _ _).setCell (fun _ => .inr (.inl rfl)) _).alloc _
  have hsz : (w4.setCell ⟨w.heap.size, 3, none⟩ (.slice a (d.queue.eraseIdx k).length c)).heap.size = w4.heap.size := by simp
  have hm : ∀ i, i < w.heap.size → BX M w.heap.size (w.heap.size + 1) w1.heap.size w4.heap.size i → M i := fun i hi q => by
    rcases q with q | q | q | q | q
    · exact q
    all_goals omega
  have hq : RdS w4 (BX M w.heap.size (w.heap.size + 1) w1.heap.size w4.heap.size) 26 EWr (.slice a (d.queue.eraseIdx k).length c) (d.queue.eraseIdx k) := ho.rd (fun g hg q => by
    have g1 := ho.lt g hg
    have g2 : w1.heap.size + 1 ≤ g := by
      rcases hn with e | ⟨g', e, hg'⟩
      · rw [e] at hg; cases hg
      · rw [e] at hg; cases hg; simpa using hg'
    rcases q with q | q | q | q | q
    · have := hM g q; omega
    all_goals omega)
  have hh := (h.mono hm).kept ke.of_no
  refine ⟨blk_old ((blk_set (k34.blk hd (fun x => x)) _).trans (by simp [devC])) _, blk_old (blk_set_ne (k34.blk hz (fun x => x)) (by omega) _) _,
    blk_old (blk_set_ne (k34.blk (blk_new w1 _) (fun x => x)) (by omega) _) _, blk_new' _ _ _ hsz.symm, ⟨hh.rt, hq.kept hb (fun _ _ x => x), hh.rd, hh.rl⟩, ke, rfl, rfl, hs, by omega⟩
theorem DoSt.bxlt (h : DoSt w M x D Z X A W d e ta qa da la tc qc dc lc) (hM : ∀ i, M i → i < w.heap.size) (i : Nat) (q : BX M D Z X A i) : i < W.heap.size := by
  have := h.dw; have := h.zw; have := h.xw; have := h.aw; have := h.dsize; have := h.kp.size
  rcases q with q | q | q | q | q
  · have := hM i q; omega
  all_goals omega
/-- a clone that is read -/
theorem DoSt.rdn {α : Type} {ee : TypeId} {sz : Nat} {E : List Value → α → Prop} {xs : List α} {v : Value} {O : Option Nat} (h : DoSt w M x D Z X A W d e ta qa da la tc qc dc lc) (hM : ∀ i, M i → i < w.heap.size) (ho : OwnS W' O ee sz E v xs) (hn : ∀ g, O = some g → W.heap.size ≤ g) : RdS W' (BX M D Z X A) sz E v xs :=
  ho.rd (fun g hg q => by have := h.bxlt hM g q; have := hn g hg; omega)
/-- what is returned -/
theorem DoSt.dev (h : DoSt w M x D Z X A W d e ta qa da la tc qc dc lc) (k : Kept (fun i => i = Z) W W') : DevV W' M (.agg (devC d ta tc qa qc da dc la lc)) d ∧ Kept NoM w W' := by
  have := h.zw
  refine ⟨⟨_, _, _, _, _, _, _, _, rfl, (h.rd.kept (k.mono (fun i _ e => .inr (.inr (.inl e))))).mono (fun i _ q => .inl q)⟩, h.kp.trans' k (fun i hi e => by omega)⟩
end
theorem own_ne {w : World} {O : Option Nat} {v : Value} {xs : List Int} {n : Int} {b : Nat} (h : OwnS w O 3 1 EInt v xs) (hb : w.heap[b]? = some (.cells #[.int .i64 n] 3 (0, 0))) (hn : n ∉ xs) (hp : 0 < xs.length) : O ≠ some b := by
  intro e
  obtain ⟨a, cap, rfl, _, _, _, hs⟩ := h.shape
  have hr := h.rd (M := NoM) (fun _ _ x => x)
  obtain ⟨a', cap', e1, _, _, h4⟩ := hr
  simp only [Value.slice.injEq] at e1
  obtain ⟨rfl, _, rfl⟩ := e1
  rcases h4 with ⟨h5, _⟩ | ⟨g, off, rfl, h5⟩
  · rw [h5] at hp; simp at hp
  · obtain ⟨g', e2, e3⟩ := hs _ rfl
    simp only [Addr.mk.injEq, and_true] at e2
    obtain ⟨rfl, rfl⟩ := e2
    rw [e] at e3; cases e3
    obtain ⟨_, cs, q1, q2, q3⟩ := h5 0 xs[0] (by simp [hp])
    have q4 := q3 0 (.int .i64 xs[0]) (by rw [q1]; rfl)
    have q5 := cell_blk hb 0 (.int .i64 n) rfl
    have q6 : some (Value.int .i64 xs[0]) = some (Value.int .i64 n) := q4.symm.trans q5
    simp only [Option.some.injEq, Value.int.injEq, true_and] at q6
    exact hn (q6 ▸ List.getElem_mem _)
end Go.Proofs.Ytghgegghlefclaa
