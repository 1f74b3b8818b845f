/- Walks: Mount of the program's disk. -/
import Derived.Test.YtjcmnobfdidnkaaKA9
import Derived.Test.YtjcmnobfdidnkaaKBX
set_option linter.unusedVariables false
set_option linter.unusedSimpArgs false
set_option linter.unusedSectionVars false
namespace Go.Proofs.Ytjcmnobfdidnkaa
open Go.RowKit
set_option maxHeartbeats 4000000
set_option maxRecDepth 4000
theorem infoByte : (Try.prog.info? 5).map (·.size) = some 1 := by kernel_rfl
/-- a copy out of a range into a block that is known -/
theorem wpList_copy_blk {P : Program} {w : World} {ops : Array Oper} {rest : List Oper} {o : Oper} {a : Act} {Q : Exit → Act → World → Prop} (hgd : o.guard = none) (d s : Operand) (dT sT : TypeId)
    (ho : o.op = .call { callee := .builtin .copy, args := #[d, s], argTypes := #[dT, sT] }) {elem : TypeId} (hu : P.underlying dT = some (.slice elem)) (hsz : (P.info? elem).map (·.size) = some 1)
    (g off n dCap : Nat) (b sCap : Nat) (hd : a.eval d = .slice (some ⟨g, off, none⟩) n dCap) (hs : a.eval s = .slice (some ⟨b, 0, none⟩) n sCap) {cur : Array Value} {t : TypeId} (hg : w.heap[g]? = some (.cells cur t (0, 0)))
    (cs : List Value) (hn : cs.length = n) (hsrc : w.rangeAt b 0 cs) (hfit : off + n ≤ cur.size) (h1 : ∀ v ∈ cs, v.oneCell' = true)
    (h : wpList P ops Q rest (a.put o.dst (.int .i64 n)) (putB w g (splice cur.toList off cs).toArray t)) : wpList P ops Q (o :: rest) a w := by
  refine wpList_plain hgd fun K hK => ?_
  have hrun := run_copy_row (P := P) w dT sT o.type elem g off n dCap ⟨b, 0, none⟩ n sCap cur t cs hu hsz hg (by rw [hn]; exact (Nat.min_self n).symm) (fun j v hv => by rw [Addr.add_mid]; exact hsrc j v hv) (by rw [hn]; exact hfit) h1
  rw [setRow_putB hg] at hrun
  unfold Oper.wp
  simp only [execOp, ho, resolve, invoke, builtin, Sem.run_bind, Sem.run_pure, Result.andThen_ok, List.map_toArray, List.map_cons, List.map_nil, hd, hs, hrun]
  have := hK _ _ h
  rw [← hn] at this
  simp [splice, goInt] at this ⊢
  exact this
theorem OwnS.putW {α : Type} {w w' : World} {b : Nat} {c : Array Value} {t e : TypeId} {sz : Nat} {E : List Value → α → Prop} {v : Value} {xs : List α} (h : OwnS (putB w b c t) (some b) e sz E v xs) (k : Kept NoM w w') (hb : b < w.heap.size) : OwnS (putB w' b c t) (some b) e sz E v xs := by
  have hk : Kept (fun i => i ≠ b) (putB w b c t) (putB w' b c t) := ⟨k.os, k.tape, k.output, by simpa using k.size, fun i hi hn => by
    have hib : i = b := Classical.byContradiction hn
    subst hib
    rw [putB_blk _ _ _ _ hb, putB_blk _ _ _ _ (Nat.lt_of_lt_of_le hb k.size)]⟩
  exact h.kept hk (fun g hg hh => by cases hg; exact hh rfl) (fun _ _ x => x)
theorem splice_take {p q : Pg} {m : Nat} (hp : p.length = 128) (hq : q.length = 128) (hm : m ≤ 128) : splice (pgCells q) 0 ((pgCells p).take m) = pgCells (p.take m ++ q.drop m) := by
  unfold splice pgCells
  simp [List.map_take, List.map_drop]
  omega
variable {D G B : Nat} {d : Dk}
theorem mount_ok (picks : List Int) (a : Option Addr) (pc : Nat) (hpl : picks.length ≤ 1000) (w : World) (h : PD w D G B d) (hp : RdS w (InD D G B) 1 EInt (.slice a picks.length pc) picks) :
    Calls Try.prog 28 #[.pointer (some ⟨D, 0, none⟩), .slice a picks.length pc] w fun e w' => e = .returned (.tuple #[]) ∧ PD w' D G B (d.mount picks) ∧ Kept (InD D G B) w w' := by
  have hn := h.n_hi
  have hwf := h.wf
  have HWF := Lib.hid hwf
  have HH := Lib.hid h
  have hlt := h.lt
  have HNE := Lib.hid h.ne
  have HPP := Lib.hid hp
  have hpend : d.pending.length ≤ d.n := by
    have := pendI_len d d.n
    rw [pendI_n, List.length_map] at this
    exact this
  clear h hwf hp
  go_enter Try.func28, Try.ntmps28
  go_wp2_with (go_at_call 46; refine (pending_ok _ HH.out).mono ?_; rintro e w1 ⟨la, lc, O, rfl, own, hnew, k1⟩)
  have hrd := own.rdNew (M := InD D G B) hnew (fun g hg hh => by rcases hh with h | h | h <;> omega)
  have HRD := Lib.hid hrd
  have K1 := Lib.hid k1
  clear own hnew hrd k1
  generalize hpq : (d.pending.map fun i : Nat => (i : Int)) = pend at *
  have HPQ := Lib.hid hpq
  have hpl2 : pend.length = d.pending.length := by rw [← hpq, List.length_map]
  rw [← hpl2] at HRD hpend ⊢
  clear hpq
  have HL2 := Lib.hid hpl2
  clear hpl2
  obtain ⟨cap, hD, hC, _, _⟩ := HH.out.kept0 K1.out
  have HDB := Lib.hid hD
  have HC := Lib.hid hC
  have hltw := (HH.out.kept0 K1.out).lt
  have HLT := Lib.hid hltw
  clear hD hC hlt hltw
  go_loopw [11, 4, 5, 6] (fun i _ _ _ wr => ∃ k : Nat, k ≤ pend.length ∧ i = .int .i64 k ∧ OwnS wr (some G) 97 128 EPg (.slice (some ⟨G, 0, none⟩) d.n cap) (d.tornTo picks k).pages ∧ Kept (fun b => b = G) w1 wr) (fun i _ _ _ _ => pend.length - (intOf i).toNat)
  case atStart => exact ⟨0, Nat.zero_le _, rfl, by rw [HWF.out.torn0]; exact HC.out.own, Kept.refl _ _⟩
  case round =>
    obtain ⟨k, hk, rfl, hO, hK⟩ := hrel
    have HO := Lib.hid hO
    have HK := Lib.hid hK
    by_cases hlt : k < pend.length
    · have hki : (k : Int) < pend.length := by omega
      obtain ⟨x, hx⟩ := getAt hlt
      have hx2 : ∃ i, d.pending[k]? = some i ∧ x = (i : Int) := by
        rw [← HPQ.out, List.getElem?_map] at hx
        simp only [Option.map_eq_some_iff] at hx
        obtain ⟨i, h1, h2⟩ := hx
        exact ⟨i, h1, h2.symm⟩
      obtain ⟨lb, loff, e1, hM, cs, rfl, _, hcc⟩ := HRD.out.at hx
      subst e1
      have x0 := hcc 0 _ rfl
      have x1 := hK.cell x0 (fun e => hM (.inr (.inl e)))
      simp only [Nat.mul_one, Nat.add_zero] at x1
      clear x0 hcc hO hK
      obtain ⟨i, hpi, rfl⟩ := hx2
      have HPI := Lib.hid hpi
      obtain ⟨hin, ⟨p, hpn⟩, hrk⟩ := Dk.rank_pending hpi
      have HPN := Lib.hid hpn
      have HRK := Lib.hid hrk
      have hpl8 := (HWF.out.pn_len hpn).1
      have HPL := Lib.hid hpl8
      have hgi := gI_nat d.pn hin
      have HGI := Lib.hid hgi
      have hnext := Dk.torn_succ (picks := picks) hpi
      have hxi : (d.tornTo picks k).pages[i]? = some (d.pg i) := by
        obtain ⟨q1, q2⟩ := Dk.tornTo_now (picks := picks) hpi
        have hl : i < (d.tornTo picks k).pages.length := by
          show i < (d.tornTo picks k).n
          rw [torn_n]; exact hin
        rw [← q1]
        unfold Dk.pg
        rw [List.getElem?_eq_getElem hl]; rfl
      have hset : (d.tornTo picks k).pages.set i (p.take (Dk.pick picks k) ++ (d.pg i).drop (Dk.pick picks k)) = (d.tornTo picks (k + 1)).pages := by
        rw [← Dk.torn_pages_succ hpi]
        congr 1
        unfold Dk.torn; rw [hpn, hrk]
      have hml := Dk.pick_le picks k
      obtain ⟨g, capx, cur, e1, e2, e3, e4, e5, e6, e7⟩ := HO.out.part (j := 0) (us := (pgCells p).take (Dk.pick picks k)) (x' := p.take (Dk.pick picks k) ++ (d.pg i).drop (Dk.pick picks k)) hxi (by rw [List.length_take, pgCells_len]; omega) (by rintro cs rfl hcl; exact splice_take hpl8 (by rw [pgCells_len] at hcl; exact hcl) hml)
      simp only [Option.some.injEq] at e4
      subst e4
      rw [hset] at e7
      have HCU := Lib.hid e5
      have HFI := Lib.hid e6
      have HO7 := Lib.hid e7
      have HM := Lib.hid (HC.out.map.kept HK.out (fun e => HC.out.ne e.symm))
      have hDr := HK.out.blk HDB.out HNE.out.1
      have HDR := Lib.hid hDr
      have cD0 := cell_blk hDr 0 _ rfl
      have cD1 := cell_blk hDr 1 _ rfl
      have zD := lt_of_block hDr
      have hii : (i : Int) < d.n := by omega
      have hzs : w1.heap.size ≤ wr.heap.size := HK.out.size
      have hgl : G < wr.heap.size := by have := HLT.out.2.1; omega
      have HGL := Lib.hid hgl
      clear hpi hx hpn hrk hpl8 hgi hnext hxi hset hml e1 e2 e3 e5 e6 e7 hDr hgl
      by_cases hpk : k < picks.length
      · have hpki : (k : Int) < picks.length := by omega
        obtain ⟨y, hy⟩ := getAt hpk
        obtain ⟨pb, poff, e1, hM2, cs, rfl, _, hcc⟩ := HPP.out.at hy
        subst e1
        have y0 := hcc 0 _ rfl
        have y1 := HK.out.cell (K1.out.cell y0 (fun x => x)) (fun e => hM2 (.inr (.inl e)))
        simp only [Nat.mul_one, Nat.add_zero] at y1
        obtain ⟨m, hpk0⟩ : ∃ m, Dk.pick picks k = m := ⟨_, rfl⟩
        have hmm : min (max y 0) 128 = (m : Int) := by
          have e : Dk.pick picks k = Dk.clamp y := by unfold Dk.pick; rw [hy]; rfl
          rw [e] at hpk0
          unfold Dk.clamp at hpk0
          omega
        have hm8 : m ≤ 128 := by rw [← hpk0]; exact Dk.pick_le _ _
        have HPK := Lib.hid hpk0
        clear y0 hcc hy hpk0
        go_wp2_with (first | (at_lookup; refine wpList_get_P rfl _ _ 73 rfl Try.underlying3 Try.underlying73 zeroPg zero128 rfl HM.out (i : Int) rfl (by omega) (by omega) ?_; rw [HGI.out, HPN.out]; simp only [Option.getD_some]) | (refine wpList_alloc_pg rfl rfl ?_) | (refine wpList_store_pgn rfl _ _ rfl _ rfl rfl rfl zero128 HPL.out ?_))
        have rW := range_blk (blk_new wr (.cells (pgCells p).toArray 97))
        have hKW : Kept NoM wr (wr.alloc (.cells (pgCells p).toArray 97)) := (Kept.refl NoM wr).alloc _
        have HKW := Lib.hid hKW
        have cW0 := hKW.cell cD0 (fun x => x)
        have HCW := Lib.hid (hKW.blk HCU.out (fun x => x))
        clear hKW
        generalize hWe : wr.alloc (.cells (pgCells p).toArray 97) = W at *
        clear hWe
        have hmi : (m : Int) ≤ 128 := by omega
        go_still_tail 10, (by kernel_rfl)
        change wpList _ _ _ _ _ W.drew
        refine wpList_copy_blk rfl (.tmp 39) (.tmp 41) 91 91 rfl Try.underlying91 infoByte G (i * 128) m 128 wr.heap.size 128 rfl rfl HCW.out ((pgCells p).take m) (by rw [List.length_take, pgCells_len, HPL.out]; omega) (fun j v hv => rW j v (by rw [List.getElem?_take] at hv; split at hv <;> first | exact hv | cases hv)) (by have := HFI.out; rw [HPK.out, List.length_take, pgCells_len, HPL.out] at this; omega) (fun v hv => pgCells_one p v (List.mem_of_mem_take hv)) ?_
        have hO8 : OwnS (putB W.drew G (splice cur.toList (i * 128) ((pgCells p).take m)).toArray 97) (some G) 97 128 EPg (.slice (some ⟨G, 0, none⟩) d.n cap) (d.tornTo picks (k + 1)).pages := by
          have := HO7.out
          rw [HPK.out] at this
          exact this.putW HKW.out.drew HGL.out
        have hK8 : Kept (fun b => b = G) w1 (putB W.drew G (splice cur.toList (i * 128) ((pgCells p).take m)).toArray 97) := (HK.out.transN HKW.out).drew.putM rfl _ _
        have HO8 := Lib.hid hO8
        have HK8 := Lib.hid hK8
        clear hO8 hK8 rW cW0
        generalize putB W.drew G (splice cur.toList (i * 128) ((pgCells p).take m)).toArray 97 = W8 at *
        try simp only [Act.put]
        go_wp2_with fail
        go_roundw
        case rel => exact ⟨k + 1, by omega, by go_num, HO8.out, HK8.out⟩
        case measure => simp [intOf]; omega
      · have f1 := decide_eq_false (show ¬ (k : Int) < picks.length by omega)
        have f2 := decide_eq_false hpk
        have HPK := Lib.hid (pick_none hpk)
        clear hpk
        go_wp2_with (first | (at_lookup; refine wpList_get_P rfl _ _ 73 rfl Try.underlying3 Try.underlying73 zeroPg zero128 rfl HM.out (i : Int) rfl (by omega) (by omega) ?_; rw [HGI.out, HPN.out]; simp only [Option.getD_some]) | (refine wpList_alloc_pg rfl rfl ?_) | (refine wpList_store_pgn rfl _ _ rfl _ rfl rfl rfl zero128 HPL.out ?_))
        have rW := range_blk (blk_new wr (.cells (pgCells p).toArray 97))
        have hKW : Kept NoM wr (wr.alloc (.cells (pgCells p).toArray 97)) := (Kept.refl NoM wr).alloc _
        have HKW := Lib.hid hKW
        have cW0 := hKW.cell cD0 (fun x => x)
        have HCW := Lib.hid (hKW.blk HCU.out (fun x => x))
        clear hKW
        generalize hWe : wr.alloc (.cells (pgCells p).toArray 97) = W at *
        clear hWe
        have hmi : (128 : Int) ≤ 128 := by omega
        go_still_tail 10, (by kernel_rfl)
        change wpList _ _ _ _ _ W.drew
        refine wpList_copy_blk rfl (.tmp 39) (.tmp 41) 91 91 rfl Try.underlying91 infoByte G (i * 128) 128 128 wr.heap.size 128 rfl rfl HCW.out ((pgCells p).take 128) (by rw [List.length_take, pgCells_len, HPL.out]; omega) (fun j v hv => rW j v (by rw [List.getElem?_take] at hv; split at hv <;> first | exact hv | cases hv)) (by have := HFI.out; rw [HPK.out, List.length_take, pgCells_len, HPL.out] at this; omega) (fun v hv => pgCells_one p v (List.mem_of_mem_take hv)) ?_
        have hO8 : OwnS (putB W.drew G (splice cur.toList (i * 128) ((pgCells p).take 128)).toArray 97) (some G) 97 128 EPg (.slice (some ⟨G, 0, none⟩) d.n cap) (d.tornTo picks (k + 1)).pages := by
          have := HO7.out
          rw [HPK.out] at this
          exact this.putW HKW.out.drew HGL.out
        have hK8 : Kept (fun b => b = G) w1 (putB W.drew G (splice cur.toList (i * 128) ((pgCells p).take 128)).toArray 97) := (HK.out.transN HKW.out).drew.putM rfl _ _
        have HO8 := Lib.hid hO8
        have HK8 := Lib.hid hK8
        clear hO8 hK8 rW cW0
        generalize putB W.drew G (splice cur.toList (i * 128) ((pgCells p).take 128)).toArray 97 = W8 at *
        try simp only [Act.put]
        go_wp2_with fail
        go_roundw
        case rel => exact ⟨k + 1, by omega, by go_num, HO8.out, HK8.out⟩
        case measure => simp [intOf]; omega
    · obtain rfl : k = pend.length := by omega
      have f1 := decide_eq_false (show ¬ ((pend.length : Nat) : Int) < pend.length by omega)
      have f2 := decide_eq_false (show ¬ pend.length < pend.length by omega)
      have hmw := HWF.out.mount picks
      have HMW := Lib.hid hmw
      have HM := Lib.hid (HC.out.map.kept HK.out (fun e => HC.out.ne e.symm))
      have hDr := HK.out.blk HDB.out HNE.out.1
      have HDR := Lib.hid hDr
      have cD1 := cell_blk hDr 1 _ rfl
      have zD := lt_of_block hDr
      clear hO hK hmw hDr
      go_wp2_with (refine wpList_clear_P rfl _ 73 rfl Try.underlying73 rfl HM.out ?_; intro w4 m4 k4 z4; obtain ⟨w5, hw5, k5, m5, z5⟩ : ∃ w5, w4 = putB w5 D #[.slice (some ⟨G, 0, none⟩) d.n cap, .map (some B), .bool d.off, .int .i64 d.trip] 75 ∧ Hid (Kept (fun b => b = B) wr w5) ∧ Hid (PMap Try.prog 3 w5 B d.n fun _ => none) ∧ D < w5.heap.size := ⟨w4, putB_self (k4.blk HDR.out HNE.out.2.1), Lib.hid k4, Lib.hid m4, by omega⟩; clear k4 m4 z4; subst hw5)
      go_end0
      have hn2 : (d.mount picks).n = d.n := Dk.n_mount picks
      have e := Dk.torn_all (d := d) picks
      rw [← HL2.out] at e
      have hpg : (d.mount picks).pages = (d.tornTo picks pend.length).pages := by rw [← e]
      have hO5 := HO.out.kept k5.out (fun g hg => by cases hg; exact HNE.out.2.2) (fun _ _ x => x)
      have hC5 : PC w5 G B cap (d.mount picks) := by
        refine ⟨by rw [hn2, hpg]; exact hO5, ?_, HMW.out, by rw [hn2]; exact hn.1, by rw [hn2]; exact hn.2, HNE.out.2.2⟩
        rw [hn2]
        have e9 : (d.mount picks).pn = fun _ => none := by funext i; exact Dk.pn_mount picks i
        rw [e9]; exact m5.out
      have hP := PD.shut (d := d.mount picks) z5 hC5 HNE.out.1 HNE.out.2.1
      rw [hn2] at hP
      refine ⟨rfl, hP, ?_⟩
      exact ((((K1.out.of_no (M := InD D G B)).trans' HK.out (fun _ _ hh => .inr (.inl hh))).trans' k5.out (fun _ _ hh => .inr (.inr hh))).putM (.inl rfl) _ _)
end Go.Proofs.Ytjcmnobfdidnkaa
