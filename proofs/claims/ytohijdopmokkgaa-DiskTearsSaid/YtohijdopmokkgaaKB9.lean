/- Walks: New of the specification's disk. -/
import Derived.Test.YtohijdopmokkgaaKB8
import Derived.Test.YtohijdopmokkgaaKA11
set_option linter.unusedVariables false
set_option linter.unusedSimpArgs false
set_option linter.unusedSectionVars false
namespace Go.Proofs.Ytohijdopmokkgaa
open Go.RowKit
set_option maxHeartbeats 4000000
set_option maxRecDepth 4000
theorem tyBytes : SlTy Try.prog 75 5 1 1 := SlTy.of (.int .u8 0) (by kernel_rfl) (by kernel_rfl) rfl (by omega)
theorem zeroByteInfo : (Try.prog.info? 5).map (·.zero) = some (some (.int .u8 0)) := by kernel_rfl
theorem wanted_none' {o : Oper} {y : Nat → Option Bool} (h : o.guard = none) : Region.wanted o y = true := by simp [Region.wanted, h]
theorem rzeros_ok (w : World) : Calls Try.prog 32 #[.int .i64 128] w fun e w' => e = .returned (strV Dk.zero) ∧ Kept NoM w w' := by
  obtain ⟨C, hC, hCs, hCc⟩ := make_multi tyBytes zeroByteInfo 128 (by omega) (by omega)
  have hconv : (convert 75 9 (.slice (some ⟨w.heap.size, 0, none⟩) 128 128)).run Try.prog (w.alloc (.cells C 5)) = .ok (strV Dk.zero) (w.alloc (.cells C 5)) :=
    conv_page 75 5 9 Try.underlying75 Try.underlying5 Try.underlying9 _ _ 0 128 128 Dk.zero zero128 (fun j u hu => by
      have hj : j < 128 := by have := (List.getElem?_eq_some_iff.1 hu).1; rw [pgCells_len, zero128] at this; exact this
      have h1 := hCc j 0 hj (by omega)
      simp only [Nat.mul_one, Nat.add_zero] at h1
      rw [World.cell?_alloc_at _ _ _ _ rfl]
      have e : pgCells Dk.zero = List.replicate 128 (.int .u8 0) := by kernel_rfl
      rw [e, List.getElem?_replicate, if_pos hj] at hu
      cases hu
      rw [Nat.zero_add]; exact h1.trans rfl)
  have hC2 : ∀ wx, (Instr.makeSlice 75 (.int .i64 128) (.int .i64 128)).run Try.prog wx = .ok (.slice (some ⟨wx.heap.size, 0, none⟩) 128 128) (wx.alloc (.cells C 5)) := hC
  clear hCs hCc hC
  go_enter Try.func32, Try.ntmps32
  go_wp2_with fail
  go_ret
  exact ⟨rfl, (Kept.refl NoM w).alloc _⟩
theorem wp_store_one {P : Program} {op : Oper} {a : Act} {w : World} {K : Act → World → Prop} {Q : Exit → Act → World → Prop} (ty : TypeId) (x y : Operand) (ho : op.op = .store ty x y)
    (b o : Nat) (v : Value) (cur : Array Value) (t : TypeId) (hx : a.eval x = .pointer (some ⟨b, o, none⟩)) (hy : a.eval y = v)
    (hg : w.heap[b]? = some (.cells cur t (0, 0))) (hfit : o + 1 ≤ cur.size) (hi : (P.info? ty).map (·.size) = some 1) (hv : v.cells = #[v]) (h1 : v.oneCell' = true)
    (h : K (a.put op.dst undef) (putB w b (splice cur.toList o [v]).toArray t)) : op.wp P a w K Q := by
  have hst := run_storeCells_at P b o t [v] 0 cur w hg (by simpa using hfit) (by intro u hu; simp at hu; subst hu; exact h1)
  rw [setRow_putB hg] at hst
  have hrun : (storeVar ty ⟨b, o, none⟩ v).run P w = .ok () (putB w b (splice cur.toList o [v]).toArray t) := by
    cases hq : P.info? ty with
    | none => simp [hq] at hi
    | some i =>
      have hs : i.size = 1 := by simpa [hq] using hi
      simp only [Nat.add_zero, List.append_assoc] at hst
      simp [storeVar, sizeOf, typeInfo, hq, hv, hs, splice]
      simpa using hst
  unfold Oper.wp execOp
  simp only [ho, hx, hy, Instr.storeAt, Instr.sureAddr, Sem.run_bind, Sem.run_pure, Result.andThen_ok, hrun]
  exact h
theorem infoPages : (Try.prog.info? 54).map (·.size) = some 1 := by kernel_rfl
theorem rnew_bad (n : Int) (h : n < 1 ∨ 4096 < n) (w : World) : Calls Try.prog 12 #[.int .i64 n] w fun e w' => e = .returned (.tuple #[.pointer none, .int .i64 1]) ∧ w = w' := by
  by_cases h1 : n < 1
  · clear h
    go_enter Try.func12, Try.ntmps12
    go_wp2_with fail
    go_ret2
    exact ⟨rfl, rfl⟩
  · have t1 : decide (n < 1) = false := decide_eq_false h1
    have h2 : 4096 < n := by omega
    clear h
    go_enter Try.func12, Try.ntmps12
    go_wp2_with fail
    go_ret2
    exact ⟨rfl, rfl⟩
theorem spNew (n : Nat) : spOf (Dk.new n) = List.replicate n (Dk.zero, none) := by
  have hn : (Dk.new n).n = n := by simp [Dk.new, Dk.n]
  unfold spOf
  rw [hn]
  apply List.ext_getElem?
  intro i
  rw [List.getElem?_map, List.getElem?_replicate]
  by_cases hi : i < n
  · rw [List.getElem?_range hi, if_pos hi]
    simp [Dk.pg, Dk.pn, Dk.new, List.getElem?_replicate, hi]
  · rw [if_neg hi, List.getElem?_eq_none (by simpa using hi)]; rfl
theorem rnew_ok (n : Nat) (h1 : 1 ≤ n) (h2 : n ≤ 4096) (w : World) : Calls Try.prog 12 #[.int .i64 n] w fun e w' => ∃ R Q, e = .returned (.tuple #[.pointer (some ⟨R, 0, none⟩), .int .i64 0]) ∧ SD w' R Q (Dk.new n) ∧ (w.heap.size ≤ R ∧ w.heap.size ≤ Q) ∧ Kept NoM w w' := by
  have t1 : decide ((n : Int) < 1) = false := decide_eq_false (by omega)
  have t2 : decide ((4096 : Int) < n) = false := decide_eq_false (by omega)
  have t3 : decide (4096 < n) = false := decide_eq_false (by omega)
  go_enter Try.func12, Try.ntmps12
  go_wp2_with fail
  go_loopw [5] (fun i wr => ∃ k : Nat, k ≤ n ∧ i = .int .i64 k ∧ ∃ a cap O, wr.heap[w.heap.size]? = some (.cells #[.slice a k cap, .bool false, .int .i64 (-1)] 56 (0, 0)) ∧ OwnS wr O 53 3 ESp (.slice a k cap) (List.replicate k (Dk.zero, none)) ∧ (∀ g, O = some g → w.heap.size < g) ∧ Kept NoM w wr) (fun i _ => n - (intOf i).toNat)
  case atStart => exact ⟨0, Nat.zero_le _, rfl, none, 0, none, blk_new' _ _ _ rfl, (OwnS.nil _ _ _ _ : OwnS _ none 53 3 ESp (.slice none 0 0) []), (fun g hg => by cases hg), (Kept.refl NoM w).alloc _⟩
  case round =>
    obtain ⟨k, hk, rfl, a, cap, O, hb, own, hO, hK⟩ := hrel
    by_cases hlt : k < n
    · have hki : (k : Int) < n := by omega
      have HB := Lib.hid hb
      have OWN := Lib.hid own
      have HO := Lib.hid hO
      have HK := Lib.hid hK
      have c0 := cell_blk hb 0 _ rfl
      have zb := lt_of_block hb
      have HRL := Lib.hid (List.length_replicate (n := k) (a := ((Dk.zero : Pg), (none : Option Pg))))
      have hb1 : k + 1 ≤ maxLen := by have : (9223372036854775807 : Nat) = maxLen := rfl; omega
      have hb2 : (k + 1) * 40 ≤ 140737488355328 := by omega
      clear hb own hO hK
      go_wp2_with fail
      refine wp_region_noPanic ?_
      refine wp_region_held_drew (S := fun _ => True) (by kernel_rfl) trivial (fun hHeld => ?restA)
      refine wpAnyH_take (i := 0) (v := ?v1) rfl (by kernel_rfl) (by kernel_rfl) (by kernel_rfl) (fun _ _ _ h => h) (Or.inl ⟨by rfl, ?hy1⟩) (by assumption) ?rest1
      case hy1 => intro w hSw; (try dsimp only at hSw); go_simp <;> with_reducible rfl
      try simp only [Act.put, List.setIfInBounds_toArray, List.set_cons_zero, List.set_cons_succ]
      refine wpAnyH_take (i := 1) (v := ?v2) rfl (by kernel_rfl) (by kernel_rfl) (by kernel_rfl) (fun _ _ _ h => h) (Or.inl ⟨by rfl, ?hy2⟩) (by assumption) ?rest2
      case hy2 => intro w hSw; (try dsimp only at hSw); go_simp <;> with_reducible rfl
      try simp only [Act.put, List.setIfInBounds_toArray, List.set_cons_zero, List.set_cons_succ]
      refine wpAnyH_take (i := 2) (v := ?v3) rfl (by kernel_rfl) (by kernel_rfl) (by kernel_rfl) (fun _ _ _ h => h) (Or.inl ⟨by rfl, ?hy3⟩) (by assumption) ?rest3
      case hy3 => intro w hSw; (try dsimp only at hSw); go_simp <;> with_reducible rfl
      try simp only [Act.put, List.setIfInBounds_toArray, List.set_cons_zero, List.set_cons_succ]
      refine wpAnyH_take (i := 3) (v := ?v4) rfl (by kernel_rfl) (by kernel_rfl) (by kernel_rfl) (fun _ _ _ h => h) (Or.inl ⟨by rfl, ?hy4⟩) (by assumption) ?rest4
      case hy4 => intro w hSw; (try dsimp only at hSw); go_simp <;> with_reducible rfl
      try simp only [Act.put, List.setIfInBounds_toArray, List.set_cons_zero, List.set_cons_succ]
      refine wpAnyH_ready (rs := [4, 5]) (by kernel_rfl) (by simp) ?_
      refine AllReadyH.cons rfl (fun K hK => ?_) (AllReadyH.cons rfl (fun K hK => ?_) AllReadyH.nil)
      · go_simp
        refine hK.out _ _ trivial (fun h4 => ?_)
        clear hK K
        try simp only [Act.put, List.setIfInBounds_toArray, List.set_cons_zero, List.set_cons_succ]
        refine wpAnyH_ready (rs := [5]) (by kernel_rfl) (by simp) ?_
        refine AllReadyH.cons rfl (fun K hK => ?_) AllReadyH.nil
        go_simp
        (go_at_call 32; refine (rzeros_ok _).mono ?_; rintro e w3 ⟨rfl, k3⟩)
        refine hK.out _ _ trivial (fun h5 => ?_)
        clear hK K
        try simp only [Act.put, List.setIfInBounds_toArray, List.set_cons_zero, List.set_cons_succ]
        have HKZ := Lib.hid (show Kept NoM wr w3 from (((Kept.refl NoM wr).drew).trans k3))
        clear k3
        unfold strV
        refine wpAnyH_take (i := 6) (v := ?v5) rfl (by kernel_rfl) (by kernel_rfl) (by kernel_rfl) (fun _ _ _ h => h) (Or.inl ⟨by rfl, ?hy5⟩) (by assumption) ?rest5
        case hy5 => intro w hSw; (try dsimp only at hSw); go_simp <;> with_reducible rfl
        try simp only [Act.put, List.setIfInBounds_toArray, List.set_cons_zero, List.set_cons_succ]
        refine wpAnyH_ready (rs := [7]) (by kernel_rfl) (by simp) ?_
        refine AllReadyH.cons rfl (fun K hK => ?_) AllReadyH.nil
        go_simp
        refine hK.out _ _ trivial (fun h7 => ?_)
        clear hK K
        try simp only [Act.put, List.setIfInBounds_toArray, List.set_cons_zero, List.set_cons_succ]
        have hown := OWN.out.kept (HKZ.out.alloc (.cells #[strV Dk.zero, .string ⟨#[]⟩, .bool false] 53)) (fun _ _ x => x) (fun _ _ x => x)
        have hrdz : RdS (w3.alloc (.cells #[strV Dk.zero, .string ⟨#[]⟩, .bool false] 53)) NoM 3 ESp (.slice (some ⟨w3.heap.size, 0, none⟩) 1 1) [((Dk.zero : Pg), (none : Option Pg))] := rd_one (x := ((Dk.zero : Pg), (none : Option Pg))) (blk_new _ _) (fun h => h) rfl rfl
        unfold strV at hown hrdz
        refine wpAnyH_ready (rs := [8]) (by kernel_rfl) (by simp) ?_
        refine AllReadyH.cons rfl (fun K hK => ?_) AllReadyH.nil
        refine step_append_S (M := NoM) rfl (.tmp 23) (.tmp 26) 54 rfl 40 tyRPages _ rfl hown _ rfl hrdz eSp_one k 1 HRL.out rfl hb1 hb2 ?_
        intro a1 cap1 w4 O1 own1 k4 n1
        refine hK.out _ _ trivial (fun h8 => ?_)
        clear hK K
        try simp only [Act.put, List.setIfInBounds_toArray, List.set_cons_zero, List.set_cons_succ]
        have k5 : Kept (fun b => some b = O) wr w4 := (HKZ.out.alloc (.cells #[strV Dk.zero, .string ⟨#[]⟩, .bool false] 53)).of_no.trans k4
        have hb4 := k5.blk HB.out (fun e => by have := HO.out _ e.symm; omega)
        have hO1 : ∀ g, O1 = some g → w.heap.size < g := fun g hg => by
          rcases n1 with rfl | ⟨g', rfl, hg'⟩
          · exact HO.out g hg
          · cases hg; have := HKZ.out.size; simp at hg'; omega
        have hKW : Kept NoM w w4 := HK.out.trans' k5 (fun i hi e => by have := HO.out i e.symm; omega)
        have HB4 := Lib.hid hb4
        have HOW := Lib.hid own1
        have HO1 := Lib.hid hO1
        have HKW := Lib.hid hKW
        have zb4 := lt_of_block hb4
        clear own1 k4 n1 k5 hb4 hO1 hKW hown hrdz
        refine wpAnyH_take (i := 9) (v := ?v6) rfl (by kernel_rfl) (by kernel_rfl) (by kernel_rfl) (fun _ _ _ h => h) (Or.inl ⟨by rfl, ?hy6⟩) (by assumption) ?rest6
        case hy6 => intro w hSw; (try dsimp only at hSw); go_simp <;> with_reducible rfl
        try simp only [Act.put, List.setIfInBounds_toArray, List.set_cons_zero, List.set_cons_succ]
        refine wpAnyH_take (i := 10) (v := ?v7) rfl (by kernel_rfl) (by kernel_rfl) (by kernel_rfl) (fun _ _ _ h => h) (Or.inl ⟨by rfl, ?hy7⟩) (by assumption) ?rest7
        case hy7 => intro w hSw; (try dsimp only at hSw); go_simp <;> with_reducible rfl
        try simp only [Act.put, List.setIfInBounds_toArray, List.set_cons_zero, List.set_cons_succ]
        refine wpAnyH_ready (rs := [11]) (by kernel_rfl) (by simp) ?_
        refine AllReadyH.cons rfl (fun K hK => ?_) AllReadyH.nil
        rw [if_pos (wanted_none' (by kernel_rfl))]
        refine wp_store_one 54 _ _ rfl w.heap.size 0 (.slice a1 (k + 1) cap1) _ 56 rfl rfl HB4.out (by simp) infoPages rfl rfl ?_
        refine hK.out _ _ trivial (fun h11 => ?_)
        clear hK K
        try simp only [Act.put, List.setIfInBounds_toArray, List.set_cons_zero, List.set_cons_succ]
        refine wpAnyH_done (by kernel_rfl) ?_ _
        refine NoPanic.normal ?_
        have hcell : (splice #[.slice a k cap, .bool false, .int .i64 (-1)].toList 0 [Value.slice a1 (k + 1) cap1]).toArray = #[.slice a1 (k + 1) cap1, .bool false, .int .i64 (-1)] := rfl
        rw [hcell]
        clear hcell h7 h8 h11
        go_wp2_with fail
        go_roundw
        case rel =>
          refine ⟨k + 1, by omega, by go_num, a1, cap1, O1, putB_blk _ _ _ _ zb4, ?_, HO1.out, HKW.out.putN (Nat.le_refl _) _ _⟩
          have := HOW.out.kept (keptD (M := fun b => b = w.heap.size) rfl #[.slice a1 (k + 1) cap1, .bool false, .int .i64 (-1)] 56) (fun g hg e => by have := HO1.out g hg; omega) (fun _ _ x => x)
          rw [show List.replicate (k + 1) ((Dk.zero : Pg), (none : Option Pg)) = List.replicate k ((Dk.zero : Pg), (none : Option Pg)) ++ [(Dk.zero, none)] from List.replicate_succ']
          exact this
        case measure => simp [intOf]; omega
      · go_simp
        (go_at_call 32; refine (rzeros_ok _).mono ?_; rintro e w3 ⟨rfl, k3⟩)
        refine hK.out _ _ trivial (fun h5 => ?_)
        clear hK K
        try simp only [Act.put, List.setIfInBounds_toArray, List.set_cons_zero, List.set_cons_succ]
        have c03 := (((Kept.refl NoM wr).drew).trans k3).cell c0 (fun x => x)
        have HKZ := Lib.hid (show Kept NoM wr w3 from (((Kept.refl NoM wr).drew).trans k3))
        clear k3
        unfold strV
        refine wpAnyH_take (i := 6) (v := ?v8) rfl (by kernel_rfl) (by kernel_rfl) (by kernel_rfl) (fun _ _ _ h => h) (Or.inl ⟨by rfl, ?hy8⟩) (by assumption) ?rest8
        case hy8 => intro w hSw; (try dsimp only at hSw); go_simp <;> with_reducible rfl
        try simp only [Act.put, List.setIfInBounds_toArray, List.set_cons_zero, List.set_cons_succ]
        refine wpAnyH_ready (rs := [4, 7]) (by kernel_rfl) (by simp) ?_
        refine AllReadyH.cons rfl (fun K hK => ?_) (AllReadyH.cons rfl (fun K hK => ?_) AllReadyH.nil)
        · go_simp
          refine hK.out _ _ trivial (fun h4 => ?_)
          clear hK K
          try simp only [Act.put, List.setIfInBounds_toArray, List.set_cons_zero, List.set_cons_succ]
          clear c03
          refine wpAnyH_ready (rs := [7]) (by kernel_rfl) (by simp) ?_
          refine AllReadyH.cons rfl (fun K hK => ?_) AllReadyH.nil
          go_simp
          refine hK.out _ _ trivial (fun h7 => ?_)
          clear hK K
          try simp only [Act.put, List.setIfInBounds_toArray, List.set_cons_zero, List.set_cons_succ]
          have hown := OWN.out.kept (HKZ.out.alloc (.cells #[strV Dk.zero, .string ⟨#[]⟩, .bool false] 53)) (fun _ _ x => x) (fun _ _ x => x)
          have hrdz : RdS (w3.alloc (.cells #[strV Dk.zero, .string ⟨#[]⟩, .bool false] 53)) NoM 3 ESp (.slice (some ⟨w3.heap.size, 0, none⟩) 1 1) [((Dk.zero : Pg), (none : Option Pg))] := rd_one (x := ((Dk.zero : Pg), (none : Option Pg))) (blk_new _ _) (fun h => h) rfl rfl
          unfold strV at hown hrdz
          refine wpAnyH_ready (rs := [8]) (by kernel_rfl) (by simp) ?_
          refine AllReadyH.cons rfl (fun K hK => ?_) AllReadyH.nil
          refine step_append_S (M := NoM) rfl (.tmp 23) (.tmp 26) 54 rfl 40 tyRPages _ rfl hown _ rfl hrdz eSp_one k 1 HRL.out rfl hb1 hb2 ?_
          intro a1 cap1 w4 O1 own1 k4 n1
          refine hK.out _ _ trivial (fun h8 => ?_)
          clear hK K
          try simp only [Act.put, List.setIfInBounds_toArray, List.set_cons_zero, List.set_cons_succ]
          have k5 : Kept (fun b => some b = O) wr w4 := (HKZ.out.alloc (.cells #[strV Dk.zero, .string ⟨#[]⟩, .bool false] 53)).of_no.trans k4
          have hb4 := k5.blk HB.out (fun e => by have := HO.out _ e.symm; omega)
          have hO1 : ∀ g, O1 = some g → w.heap.size < g := fun g hg => by
            rcases n1 with rfl | ⟨g', rfl, hg'⟩
            · exact HO.out g hg
            · cases hg; have := HKZ.out.size; simp at hg'; omega
          have hKW : Kept NoM w w4 := HK.out.trans' k5 (fun i hi e => by have := HO.out i e.symm; omega)
          have HB4 := Lib.hid hb4
          have HOW := Lib.hid own1
          have HO1 := Lib.hid hO1
          have HKW := Lib.hid hKW
          have zb4 := lt_of_block hb4
          clear own1 k4 n1 k5 hb4 hO1 hKW hown hrdz
          refine wpAnyH_take (i := 9) (v := ?v9) rfl (by kernel_rfl) (by kernel_rfl) (by kernel_rfl) (fun _ _ _ h => h) (Or.inl ⟨by rfl, ?hy9⟩) (by assumption) ?rest9
          case hy9 => intro w hSw; (try dsimp only at hSw); go_simp <;> with_reducible rfl
          try simp only [Act.put, List.setIfInBounds_toArray, List.set_cons_zero, List.set_cons_succ]
          refine wpAnyH_take (i := 10) (v := ?v10) rfl (by kernel_rfl) (by kernel_rfl) (by kernel_rfl) (fun _ _ _ h => h) (Or.inl ⟨by rfl, ?hy10⟩) (by assumption) ?rest10
          case hy10 => intro w hSw; (try dsimp only at hSw); go_simp <;> with_reducible rfl
          try simp only [Act.put, List.setIfInBounds_toArray, List.set_cons_zero, List.set_cons_succ]
          refine wpAnyH_ready (rs := [11]) (by kernel_rfl) (by simp) ?_
          refine AllReadyH.cons rfl (fun K hK => ?_) AllReadyH.nil
          rw [if_pos (wanted_none' (by kernel_rfl))]
          refine wp_store_one 54 _ _ rfl w.heap.size 0 (.slice a1 (k + 1) cap1) _ 56 rfl rfl HB4.out (by simp) infoPages rfl rfl ?_
          refine hK.out _ _ trivial (fun h11 => ?_)
          clear hK K
          try simp only [Act.put, List.setIfInBounds_toArray, List.set_cons_zero, List.set_cons_succ]
          refine wpAnyH_done (by kernel_rfl) ?_ _
          refine NoPanic.normal ?_
          have hcell : (splice #[.slice a k cap, .bool false, .int .i64 (-1)].toList 0 [Value.slice a1 (k + 1) cap1]).toArray = #[.slice a1 (k + 1) cap1, .bool false, .int .i64 (-1)] := rfl
          rw [hcell]
          clear hcell h7 h8 h11
          go_wp2_with fail
          go_roundw
          case rel =>
            refine ⟨k + 1, by omega, by go_num, a1, cap1, O1, putB_blk _ _ _ _ zb4, ?_, HO1.out, HKW.out.putN (Nat.le_refl _) _ _⟩
            have := HOW.out.kept (keptD (M := fun b => b = w.heap.size) rfl #[.slice a1 (k + 1) cap1, .bool false, .int .i64 (-1)] 56) (fun g hg e => by have := HO1.out g hg; omega) (fun _ _ x => x)
            rw [show List.replicate (k + 1) ((Dk.zero : Pg), (none : Option Pg)) = List.replicate k ((Dk.zero : Pg), (none : Option Pg)) ++ [(Dk.zero, none)] from List.replicate_succ']
            exact this
          case measure => simp [intOf]; omega
        · go_simp
          refine hK.out _ _ trivial (fun h7 => ?_)
          clear hK K
          try simp only [Act.put, List.setIfInBounds_toArray, List.set_cons_zero, List.set_cons_succ]
          have c04 := ((Kept.refl NoM w3).alloc (.cells #[.string ⟨Dk.zero.toArray⟩, .string ⟨#[]⟩, .bool false] 53)).cell c03 (fun x => x)
          refine wpAnyH_ready (rs := [4]) (by kernel_rfl) (by simp) ?_
          refine AllReadyH.cons rfl (fun K hK => ?_) AllReadyH.nil
          go_simp
          refine hK.out _ _ trivial (fun h4 => ?_)
          clear hK K
          try simp only [Act.put, List.setIfInBounds_toArray, List.set_cons_zero, List.set_cons_succ]
          clear c03 c04
          have hown := OWN.out.kept (HKZ.out.alloc (.cells #[strV Dk.zero, .string ⟨#[]⟩, .bool false] 53)) (fun _ _ x => x) (fun _ _ x => x)
          have hrdz : RdS (w3.alloc (.cells #[strV Dk.zero, .string ⟨#[]⟩, .bool false] 53)) NoM 3 ESp (.slice (some ⟨w3.heap.size, 0, none⟩) 1 1) [((Dk.zero : Pg), (none : Option Pg))] := rd_one (x := ((Dk.zero : Pg), (none : Option Pg))) (blk_new _ _) (fun h => h) rfl rfl
          unfold strV at hown hrdz
          refine wpAnyH_ready (rs := [8]) (by kernel_rfl) (by simp) ?_
          refine AllReadyH.cons rfl (fun K hK => ?_) AllReadyH.nil
          refine step_append_S (M := NoM) rfl (.tmp 23) (.tmp 26) 54 rfl 40 tyRPages _ rfl hown _ rfl hrdz eSp_one k 1 HRL.out rfl hb1 hb2 ?_
          intro a1 cap1 w4 O1 own1 k4 n1
          refine hK.out _ _ trivial (fun h8 => ?_)
          clear hK K
          try simp only [Act.put, List.setIfInBounds_toArray, List.set_cons_zero, List.set_cons_succ]
          have k5 : Kept (fun b => some b = O) wr w4 := (HKZ.out.alloc (.cells #[strV Dk.zero, .string ⟨#[]⟩, .bool false] 53)).of_no.trans k4
          have hb4 := k5.blk HB.out (fun e => by have := HO.out _ e.symm; omega)
          have hO1 : ∀ g, O1 = some g → w.heap.size < g := fun g hg => by
            rcases n1 with rfl | ⟨g', rfl, hg'⟩
            · exact HO.out g hg
            · cases hg; have := HKZ.out.size; simp at hg'; omega
          have hKW : Kept NoM w w4 := HK.out.trans' k5 (fun i hi e => by have := HO.out i e.symm; omega)
          have HB4 := Lib.hid hb4
          have HOW := Lib.hid own1
          have HO1 := Lib.hid hO1
          have HKW := Lib.hid hKW
          have zb4 := lt_of_block hb4
          clear own1 k4 n1 k5 hb4 hO1 hKW hown hrdz
          refine wpAnyH_take (i := 9) (v := ?v11) rfl (by kernel_rfl) (by kernel_rfl) (by kernel_rfl) (fun _ _ _ h => h) (Or.inl ⟨by rfl, ?hy11⟩) (by assumption) ?rest11
          case hy11 => intro w hSw; (try dsimp only at hSw); go_simp <;> with_reducible rfl
          try simp only [Act.put, List.setIfInBounds_toArray, List.set_cons_zero, List.set_cons_succ]
          refine wpAnyH_take (i := 10) (v := ?v12) rfl (by kernel_rfl) (by kernel_rfl) (by kernel_rfl) (fun _ _ _ h => h) (Or.inl ⟨by rfl, ?hy12⟩) (by assumption) ?rest12
          case hy12 => intro w hSw; (try dsimp only at hSw); go_simp <;> with_reducible rfl
          try simp only [Act.put, List.setIfInBounds_toArray, List.set_cons_zero, List.set_cons_succ]
          refine wpAnyH_ready (rs := [11]) (by kernel_rfl) (by simp) ?_
          refine AllReadyH.cons rfl (fun K hK => ?_) AllReadyH.nil
          rw [if_pos (wanted_none' (by kernel_rfl))]
          refine wp_store_one 54 _ _ rfl w.heap.size 0 (.slice a1 (k + 1) cap1) _ 56 rfl rfl HB4.out (by simp) infoPages rfl rfl ?_
          refine hK.out _ _ trivial (fun h11 => ?_)
          clear hK K
          try simp only [Act.put, List.setIfInBounds_toArray, List.set_cons_zero, List.set_cons_succ]
          refine wpAnyH_done (by kernel_rfl) ?_ _
          refine NoPanic.normal ?_
          have hcell : (splice #[.slice a k cap, .bool false, .int .i64 (-1)].toList 0 [Value.slice a1 (k + 1) cap1]).toArray = #[.slice a1 (k + 1) cap1, .bool false, .int .i64 (-1)] := rfl
          rw [hcell]
          clear hcell h7 h8 h11
          go_wp2_with fail
          go_roundw
          case rel =>
            refine ⟨k + 1, by omega, by go_num, a1, cap1, O1, putB_blk _ _ _ _ zb4, ?_, HO1.out, HKW.out.putN (Nat.le_refl _) _ _⟩
            have := HOW.out.kept (keptD (M := fun b => b = w.heap.size) rfl #[.slice a1 (k + 1) cap1, .bool false, .int .i64 (-1)] 56) (fun g hg e => by have := HO1.out g hg; omega) (fun _ _ x => x)
            rw [show List.replicate (k + 1) ((Dk.zero : Pg), (none : Option Pg)) = List.replicate k ((Dk.zero : Pg), (none : Option Pg)) ++ [(Dk.zero, none)] from List.replicate_succ']
            exact this
          case measure => simp [intOf]; omega
    · obtain rfl : k = n := by omega
      have hf := decide_eq_false (show ¬ (k : Int) < k by omega)
      have hf2 := decide_eq_false (show ¬ k < k by omega)
      have HB := Lib.hid hb
      have OWN := Lib.hid own
      have HO := Lib.hid hO
      have HK := Lib.hid hK
      clear hb own hO hK
      go_wp2_with fail
      go_ret2
      have hnn : (Dk.new k).n = k := by simp [Dk.new, Dk.n]
      obtain ⟨a', c', e1, _, _, h5, h6⟩ := OWN.out.shape
      rw [List.length_replicate] at e1 h5
      simp only [Value.slice.injEq] at e1
      obtain ⟨rfl, _, rfl⟩ := e1
      cases a with
      | none => have := (h5 rfl).1; omega
      | some b =>
        obtain ⟨Q, rfl, hQ⟩ := h6 b rfl
        subst hQ
        have hlt := HO.out Q rfl
        refine ⟨w.heap.size, Q, rfl, ⟨cap, ?_, ?_, Dk.WF.new k, by rw [hnn]; omega, by rw [hnn]; omega, by omega⟩, ⟨Nat.le_refl _, by omega⟩, HK.out⟩
        · rw [hnn]; exact HB.out
        · rw [hnn, spNew]; exact OWN.out
end Go.Proofs.Ytohijdopmokkgaa
