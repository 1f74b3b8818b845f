/- Walks: the small functions of the laws. -/
import Derived.Test.YtghgegghlefclaaKW36
import Derived.Test.YtghgegghlefclaaKW16
import Derived.Test.YtghgegghlefclaaKW9
set_option linter.unusedVariables false
set_option linter.unusedSimpArgs false
set_option linter.unusedSectionVars false
namespace Go.Proofs.Ytghgegghlefclaa
open Go.RowKit
set_option maxHeartbeats 2000000
set_option maxRecDepth 8000
def putW (seq pri : Int) : Wr := ⟨3, seq, 1, ⟨pri, fun _ => 0, fun _ => 0, -1, none, 0, 0⟩⟩
theorem results_cell {P : Program} {fn : Func} {t : TypeId} {a : Tmp} {tm : Array Value} {b : Addr} {v : Value} {w : World} (h : fn.results = #[.cell a t]) (hp : tm[a]?.getD undef = .pointer (some b)) (hl : (loadVar t b).run P w = .ok v w) : (results fn tm).run P w = Result.ok v w := by
  unfold results
  rw [h]
  simp [hp, asAddr, Sem.run_bind, hl]
theorem loadWr {w : World} {b : Nat} {cs : Array Value} (hb : w.heap[b]? = some (.cells cs 41 (0, 0))) (hl : cs.size = 26) : (loadVar 41 ⟨b, 0, none⟩).run Try.prog w = .ok (.agg cs) w := by
  obtain ⟨⟨d, hu, hd⟩, hi⟩ := bigWr
  have h := run_loadVar_mid (P := Try.prog) w b 0 41 cs.toList d (range_blk hb) hu hd (by rw [hi]; simp [hl])
  simpa using h
theorem lput_ok (seq pri : Int) (w : World) : Calls Try.prog 37 #[.int .i64 seq, .int .i64 pri] w fun e w' => e = .returned (.agg (wrC (putW seq pri))) ∧ Kept NoM w w' := by
  have HB := Lib.hid (blk_new w (.cells (wrC (putW seq pri)) 41))
  have K := Lib.hid ((Kept.refl NoM w).alloc (.cells (wrC (putW seq pri)) 41))
  go_enter Try.func37, Try.ntmps37
  go_wp2_with (first
    | (refine wpList_alloc_Z rfl 41 rfl _ (wrZ _) ?_)
    | (refine wpList_store_bign (cs := wrC (putW seq pri)) bigWr rfl _ _ rfl _ rfl rfl rfl rfl rfl (wr1 _) ?_))
  have HL := loadWr HB.out rfl
  generalize wrC (putW seq pri) = cz at *
  exact bodyPost_ret (v := .agg cz) (results_cell rfl (by rfl) HL) rfl ⟨rfl, K.out⟩
theorem lack_ok (seq : Int) (w : World) : Calls Try.prog 39 #[.int .i64 seq] w fun e w' => e = .returned (.agg #[.int .i64 3, .int .i64 seq, .int .i64 0]) ∧ Kept NoM w w' := by
  go_enter Try.func39, Try.ntmps39
  go_wp2_with (first
    | (refine wpList_alloc_Z rfl 60 rfl _ (akZ _) ?_)
    | (refine wpList_store_bign (cs := #[.int .i64 3, .int .i64 seq, .int .i64 0]) bigAk rfl _ _ rfl _ rfl rfl rfl rfl rfl (eAk_one _ ⟨3, seq, 0⟩ rfl) ?_))
  refine bodyPost_ret (v := .agg #[.int .i64 3, .int .i64 seq, .int .i64 0]) (by simp [results, Try.results39, go_sem]) rfl ?_
  exact ⟨rfl, (Kept.refl NoM w).alloc _⟩
theorem nP_take {q : List Wr} {k : Nat} {x : Wr} (hx : q[k]? = some x) : nP (q.take (k + 1)) = nP (q.take k) + (if x.kind = 1 then 1 else 0) := by
  unfold nP
  rw [take_snoc hx, List.filter_append, List.length_append]
  congr 1
  by_cases h : x.kind = 1 <;> simp [h]
theorem room_ok (d : Dev) (ta qa da la : Option Addr) (tc qc dc lc : Nat) (M : Nat → Prop) (w : World) (h : DevR w M d ta tc qa qc da dc la lc) (hq : d.queue.length ≤ 1000) (ht : d.table.length ≤ 1000) :
    Calls Try.prog 11 #[.agg (devC d ta tc qa qc da dc la lc)] w fun e w' => e = .returned (.bool (decide (((d.table.length + nP d.queue : Nat) : Int) ≤ d.room))) ∧ Kept NoM w w' := by
  have K0 := Lib.hid ((Kept.refl NoM w).alloc (.cells (devC d ta tc qa qc da dc la lc) 27))
  have HB := Lib.hid (blk_new w (.cells (devC d ta tc qa qc da dc la lc) 27))
  have HQ := Lib.hid (h.rq.kept K0.out.of_no (fun _ _ x => x))
  have y2 := cell_blk HB.out 2 _ dv2
  clear h
  go_enter Try.func11, Try.ntmps11
  go_wp2_with fail
  generalize w.alloc (.cells (devC d ta tc qa qc da dc la lc) 27) = w1 at *
  have y3 := cell_blk HB.out 3 _ dv3
  have y0 := cell_blk HB.out 0 _ dv0
  go_loopw [3, 4] (fun v i wr => ∃ k n m : Nat, k ≤ d.queue.length ∧ i = .int .i64 k ∧ v = .int .i64 m ∧ Hid (m = d.table.length + nP (d.queue.take k)) ∧ m ≤ 1000 + k ∧ wr = w1.drewN n) (fun _ i _ => d.queue.length - (intOf i).toNat)
  case atStart => exact ⟨0, 0, d.table.length, Nat.zero_le _, rfl, rfl, Lib.hid (by simp [nP]), ht, rfl⟩
  case round =>
    obtain ⟨k, n, m, hk, rfl, rfl, hA, hm, rfl⟩ := hrel
    by_cases hlt : k < d.queue.length
    · have hki : (k : Int) < d.queue.length := by omega
      obtain ⟨x, hx⟩ := getAt hlt
      obtain ⟨b, off, e1, _, hc⟩ := wr_at HQ.out hx
      rw [e1] at y3
      have HX := Lib.hid hx
      have t2 := range_cell hc 2 _ (wrC_2 x)
      clear hx hc
      by_cases h1 : x.kind = 1
      · have HN := Lib.hid (nP_take HX.out)
        rw [if_pos h1] at HN
        rw [h1] at t2
        clear h1
        go_wp2_with fail
        go_roundw
        case rel => exact ⟨k + 1, _, m + 1, by omega, by go_num, by go_num, Lib.hid (by rw [HN.out, hA.out]; omega), by omega, rfl⟩
        case measure => simp [intOf]; omega
      · have HN := Lib.hid (nP_take HX.out)
        rw [if_neg h1] at HN
        have f1 : (x.kind == 1) = false := by simpa using h1
        clear h1
        go_wp2_with fail
        go_roundw
        case rel => exact ⟨k + 1, _, m, by omega, by go_num, rfl, Lib.hid (by rw [HN.out, hA.out]; omega), by omega, rfl⟩
        case measure => simp [intOf]; omega
    · obtain rfl : k = d.queue.length := by omega
      have hA2 := hA.out
      rw [List.take_length] at hA2
      subst hA2
      have f1 := decide_eq_false (show ¬ ((d.queue.length : Nat) : Int) < d.queue.length by omega)
      have f2 := decide_eq_false (show ¬ d.queue.length < d.queue.length by omega)
      go_wp2_with fail
      go_ret
      exact ⟨rfl, K0.out.drewN _⟩
/-- the law's 'formed' -/
theorem formedl_ok (v : Value) (l : List Wr) (M : Nat → Prop) (most : Int) (w : World) (h : RdS w M 26 EWr v l) (hl : l.length ≤ 9223372036854775807) (ho : ∀ x ∈ l, OutR w x.rule) :
    Calls Try.prog 28 #[v, .int .i64 most] w (ImpP (((l.length : Int) ≤ most ∧ ∀ x ∈ l, OutB w x.rule) ∧ ∀ x ∈ l, formedB x = true) w) := by
  obtain ⟨a, cap, rfl, _, _⟩ := h.shape
  have HH := Lib.hid h
  have HO := Lib.hid ho
  clear h ho
  go_enter Try.func28, Try.ntmps28
  go_wp2_with fail
  go_loopw [5] (fun i wr => ∃ k : Nat, k ≤ l.length ∧ i = .int .i64 k ∧ Hid (∀ (j : Nat) x, j < k → l[j]? = some x → formedB x = true) ∧ Hid (Kept NoM w wr)) (fun i _ => l.length - (intOf i).toNat)
  case atStart => exact ⟨0, Nat.zero_le _, rfl, Lib.hid (fun j x hj => absurd hj (Nat.not_lt_zero _)), Lib.hid (Kept.refl _ _)⟩
  case round =>
    obtain ⟨k, hk, rfl, hA, hK⟩ := hrel
    by_cases hlt : k < l.length
    · have hki : (k : Int) < l.length := by omega
      obtain ⟨x, hx⟩ := getAt hlt
      obtain ⟨b, off, e1, _, hc⟩ := wr_at (HH.out.kept hK.out.of_no (fun _ _ x => x)) hx
      subst e1
      have HC := Lib.hid hc
      have HX := Lib.hid hx
      have FC := Lib.hid (rformed_ok x wr)
      clear hx hc
      cases hf : formedB x with
      | false =>
        rw [hf] at FC
        clear hf
        go_wp2_with (first
          | (refine wpList_load_big bigWr rfl _ rfl b (off + k * 26) (wrC x) rfl HC.out rfl ?_)
          | (go_at_call 57; refine FC.out.mono ?_; rintro e w4 ⟨rfl, k4⟩; have K4 := Lib.hid (hK.out.trans k4); clear k4))
        go_ret
        exact ⟨false, rfl, fun h => by simp at h, K4.out⟩
      | true =>
        have HF := Lib.hid hf
        rw [hf] at FC
        clear hf
        go_wp2_with (first
          | (refine wpList_load_big bigWr rfl _ rfl b (off + k * 26) (wrC x) rfl HC.out rfl ?_)
          | (go_at_call 57; refine FC.out.mono ?_; rintro e w4 ⟨rfl, k4⟩; have K4 := Lib.hid (hK.out.trans k4); clear k4))
        go_roundw
        case rel => exact ⟨k + 1, by omega, by go_num, Lib.hid (fun j z hj hz => by
          by_cases h : j = k
          · subst h; have := HX.out.symm.trans hz; cases this; exact HF.out
          · exact hA.out j z (by omega) hz), K4⟩
        case measure => simp [intOf]; omega
    · obtain rfl : k = l.length := by omega
      have f1 := decide_eq_false (show ¬ ((l.length : Nat) : Int) < l.length by omega)
      have f2 := decide_eq_false (show ¬ l.length < l.length by omega)
      have FW := Lib.hid (feww_ok _ l M most wr (HH.out.kept hK.out.of_no (fun _ _ x => x)) hl w hK.out HO.out)
      have HALL := Lib.hid (show ∀ x ∈ l, formedB x = true from fun x hx => by
        obtain ⟨i, hi⟩ := List.getElem?_of_mem hx
        exact hA.out i x (List.getElem?_eq_some_iff.1 hi).1 hi)
      go_wp2_with (go_at_call 16; refine FW.out.mono ?_; rintro e w5 ⟨b1, rfl, hb, k5⟩; have HB := Lib.hid hb; have K5 := Lib.hid (hK.out.trans k5); clear hb k5)
      go_ret
      exact ⟨b1, rfl, fun h => ⟨HB.out h, HALL.out⟩, K5.out⟩
end Go.Proofs.Ytghgegghlefclaa
