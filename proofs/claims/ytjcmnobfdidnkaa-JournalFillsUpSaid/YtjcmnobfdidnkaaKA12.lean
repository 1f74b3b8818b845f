/- Walks: Clone of the program's disk. -/
import Derived.Test.YtjcmnobfdidnkaaKA11
import Derived.Deep.RegionHeld3
set_option linter.unusedVariables false
set_option linter.unusedSimpArgs false
set_option linter.unusedSectionVars false
namespace Go.Proofs.Ytjcmnobfdidnkaa
open Go.RowKit
set_option maxHeartbeats 4000000
set_option maxRecDepth 4000
theorem OwnS.empty {α : Type} {w : World} {g : Nat} {e : TypeId} {sz : Nat} {E : List Value → α → Prop} (h : w.heap[g]? = some (.cells #[] e (0, 0))) : OwnS w (some g) e sz E (.slice (some ⟨g, 0, none⟩) 0 0) [] :=
  ⟨rfl, [], ⟨by simp, .inr ⟨g, 0, #[], rfl, Nat.zero_le _, h, Nat.le_refl _, Nat.zero_le _, by simp, by simp⟩⟩, rfl, fun i c x hc => by simp at hc⟩
/-- slices.Clone of pages -/
theorem clonepg_ok (g n cap : Nat) (xs : List Pg) (hln : xs.length = n) (hn0 : 0 < n) (hn : n ≤ 4096) (w : World) (hl : RdS w NoM 128 EPg (.slice (some ⟨g, 0, none⟩) n cap) xs) :
    Calls Try.prog 47 #[.slice (some ⟨g, 0, none⟩) n cap] w fun e w' => ∃ G2 cap2, e = .returned (.slice (some ⟨G2, 0, none⟩) n cap2) ∧ OwnS w' (some G2) 97 128 EPg (.slice (some ⟨G2, 0, none⟩) n cap2) xs ∧ w.heap.size ≤ G2 ∧ Kept NoM w w' := by
  subst hln
  have hnil := fun wx => Lib.run_eql_slice_nil (P := Try.prog) wx 72 97 (some ⟨g, 0, none⟩) xs.length cap 0 0 Try.underlying72
  have hk : ∀ o, Kept NoM w (w.alloc o) := fun o => (Kept.refl NoM w).alloc o
  have hs : ∀ o, RdS (w.alloc o) NoM 128 EPg (.slice (some ⟨g, 0, none⟩) xs.length cap) xs := fun o => hl.kept (hk o) (fun _ _ x => x)
  have ho : OwnS (w.alloc (.cells #[] 97)) (some w.heap.size) 97 128 EPg (.slice (some ⟨w.heap.size, 0, none⟩) 0 0) [] := OwnS.empty (blk_new w _)
  go_enter Try.func47, Try.ntmps47
  go_wp2_with (at_builtin; refine wpList_append_S (M := NoM) rfl (.tmp 5) (.tmp 6) 72 rfl 128 tyPages _ rfl ho _ rfl (hs _) ePg_one 0 xs.length rfl rfl (by have : (9223372036854775807 : Nat) = maxLen := rfl; omega) (by omega) ?_; rw [Nat.zero_add]; intro a1 cap1 w1 O1 hown1 hk1 hn1)
  go_ret
  have hex : ∃ G2, a1 = some ⟨G2, 0, none⟩ ∧ O1 = some G2 ∧ w.heap.size ≤ G2 := by
    obtain ⟨a', c', e1, _, _, h5, h6⟩ := hown1.shape
    simp only [Value.slice.injEq] at e1
    obtain ⟨rfl, _, _⟩ := e1
    cases a1 with
    | none => have := (h5 rfl).1; simp at this; subst this; simp at hn0
    | some b =>
      obtain ⟨g', h7, h8⟩ := h6 b rfl
      refine ⟨g', by rw [h7], h8, ?_⟩
      rcases hn1 with h9 | ⟨g2, h9, h10⟩
      · rw [h8] at h9; simp at h9; omega
      · rw [h8] at h9; simp at h9 h10; omega
  obtain ⟨G2, rfl, rfl, hG⟩ := hex
  refine ⟨G2, cap1, rfl, by simpa using hown1, hG, ?_⟩
  exact ((Kept.refl NoM w).alloc _).trans' hk1 (fun i hi h => by simp at h; omega)
variable {D G B : Nat} {d : Dk}
/-- the copy while some of the pending pages are still to come -/
def cl (d : Dk) (left : Nat → Bool) : Dk := d.at_ d.pg (fun i => if left i then none else d.pn i)
theorem cl_n (left : Nat → Bool) : (cl d left).n = d.n := Dk.at_n _ _
theorem cl_wf (h : d.WF) (left : Nat → Bool) : (cl d left).WF := by
  refine ⟨by simp [cl, Dk.at_], fun i p hp => ?_, fun i p hp => ?_, h.lo, h.hi⟩
  · have : (cl d left).pages = d.pages := by show (List.range d.n).map d.pg = d.pages; exact h.pages_eq.symm
    rw [this] at hp; exact h.page i p hp
  · simp only [cl, Dk.at_, List.getElem?_map, Option.map_eq_some_iff] at hp
    obtain ⟨j, hj, hq⟩ := hp
    split at hq
    · cases hq
    · exact (h.pn_len hq).1
theorem cl_pages (h : d.WF) (left : Nat → Bool) : (cl d left).pages = d.pages := h.pages_eq.symm
theorem cl_pn (left : Nat → Bool) {i : Nat} (hi : i < d.n) : (cl d left).pn i = if left i then none else d.pn i := Dk.at_pn _ _ hi
theorem cl_end (h : d.WF) {left : Nat → Bool} (hl : ∀ i, left i = false) : cl d left = d := by
  have : cl d left = d.at_ d.pg d.pn := by unfold cl; congr 1; funext i; rw [hl i]; rfl
  rw [this, h.at_self]
theorem cl_step {left : Nat → Bool} {i : Nat} {p : Pg} (hp : d.pn i = some p) : (cl d left).setPend i p = cl d (fun j => left j && !(j == i)) := by
  show Dk.mk _ _ _ _ = Dk.mk _ _ _ _
  congr 1
  show ((List.range d.n).map _).set i (some p) = (List.range d.n).map _
  rw [map_set_range]
  refine map_range_congr fun j hj => ?_
  by_cases hji : j = i
  · subst hji; simp [hp]
  · simp [hji]
theorem clone_start {W : World} {D2 G2 B2 cap2 : Nat} (hw : d.WF) (h0 : 0 < d.n) (h1 : d.n ≤ 4096) (hD : W.heap[D2]? = some (.cells #[.slice (some ⟨G2, 0, none⟩) d.n cap2, .map (some B2), .bool d.off, .int .i64 d.trip] 75 (0, 0)))
    (hO : OwnS W (some G2) 97 128 EPg (.slice (some ⟨G2, 0, none⟩) d.n cap2) d.pages) (hM : PMap Try.prog 3 W B2 d.n (fun _ => none)) (n1 : D2 ≠ G2) (n2 : D2 ≠ B2) (n3 : G2 ≠ B2) (L : Nat → Bool) (hL : ∀ i, i < d.n → L i = (d.pn i).isSome) : PD W D2 G2 B2 (cl d L) := by
  refine ⟨cap2, by rw [cl_n]; exact hD, ⟨by rw [cl_n, cl_pages hw]; exact hO, ?_, cl_wf hw L, by rw [cl_n]; exact h0, by rw [cl_n]; exact h1, n3⟩, n1, n2⟩
  rw [cl_n]
  refine hM.congr fun i hi => ?_
  rw [cl_pn _ hi, hL i hi]
  cases d.pn i <;> rfl
theorem clone_ok (w : World) (h : PD w D G B d) : Calls Try.prog 31 #[.pointer (some ⟨D, 0, none⟩)] w fun e w' => ∃ D2 G2 B2, e = .returned (.pointer (some ⟨D2, 0, none⟩)) ∧ PD w' D2 G2 B2 d ∧ (w.heap.size ≤ D2 ∧ w.heap.size ≤ G2 ∧ w.heap.size ≤ B2) ∧ Kept NoM w w' := by
  have HH := Lib.hid h
  have hn := h.n_hi
  have hlt := h.lt
  obtain ⟨cap, hD, hC, _, _⟩ := h
  have c0 := cell_blk hD 0 _ rfl
  have c1 := cell_blk hD 1 _ rfl
  have c2 := cell_blk hD 2 _ rfl
  have c3 := cell_blk hD 3 _ rfl
  have HC := Lib.hid hC
  have hmm := @run_makeMap Try.prog
  have hL : d.pages.length = d.n := rfl
  have HL := Lib.hid hL
  clear hD hC hL
  have KS : ∀ w', Kept NoM w w' → w'.cell? ⟨D, 0, none⟩ = some (.slice (some ⟨G, 0, none⟩) d.n cap) ∧ w'.cell? ⟨D, 2, none⟩ = some (.bool d.off) ∧ w'.cell? ⟨D, 3, none⟩ = some (.int .i64 d.trip) := fun w' k => ⟨k.cell c0 (fun x => x), k.cell c2 (fun x => x), k.cell c3 (fun x => x)⟩
  have hcl : ∀ w', Kept NoM w w' → Calls Try.prog 47 #[.slice (some ⟨G, 0, none⟩) d.n cap] w' fun e w2 => ∃ G2 cap2, e = .returned (.slice (some ⟨G2, 0, none⟩) d.n cap2) ∧ Hid (OwnS w2 (some G2) 97 128 EPg (.slice (some ⟨G2, 0, none⟩) d.n cap2) d.pages) ∧ Hid (w'.heap.size ≤ G2) ∧ Hid (Kept NoM w w2) ∧ Hid (Kept NoM w' w2) := fun w' k =>
    (clonepg_ok G d.n cap d.pages HL.out hn.1 hn.2 w' ((HC.out.own.kept k (fun _ _ x => x) (fun _ _ x => x)).rd (fun _ _ x => x))).mono fun e w2 ⟨G2, cap2, h1, h2, h3, h4⟩ => ⟨G2, cap2, h1, h2, h3, k.trans h4, h4⟩
  have HKS := Lib.hid KS
  have HCL := Lib.hid hcl
  clear KS hcl
  go_enter Try.func31, Try.ntmps31
  go_wp2_with fail
  go_region_held3 (fun w' => w'.cell? ⟨D, 0, none⟩ = some (.slice (some ⟨G, 0, none⟩) d.n cap) ∧ w'.cell? ⟨D, 2, none⟩ = some (.bool d.off) ∧ w'.cell? ⟨D, 3, none⟩ = some (.int .i64 d.trip)) (first | exact HKS.out _ ((Kept.refl NoM w).drew) | exact HKS.out _ (((Kept.refl NoM w).drew).alloc _) | exact HKS.out _ hk2.out | exact HKS.out _ (hk2.out.alloc _) | exact HKS.out _ ((hk2.out.alloc _).alloc _)) (first | ((go_at_call 47; refine (HCL.out _ ((Kept.refl NoM w).drew)).mono ?_; rintro e w2 ⟨G2, cap2, rfl, ho2, hg2, hk2, hj2⟩)) | ((go_at_call 47; refine (HCL.out _ (((Kept.refl NoM w).drew).alloc _)).mono ?_; rintro e w2 ⟨G2, cap2, rfl, ho2, hg2, hk2, hj2⟩)))
  --WAYS
  · have hbox := (((Kept.refl NoM w2).alloc (.map #[] 0)).alloc (.cells #[.slice (some ⟨G2, 0, none⟩) d.n cap2, .map (some w2.heap.size), .bool d.off, .int .i64 d.trip] 75))
    have hzz : w.heap.size ≤ w2.heap.size := hk2.out.size
    have hgz : G2 < w2.heap.size := ho2.out.lt G2 rfl
    have P0 := clone_start (W := (w2.alloc (.map #[] 0)).alloc (.cells #[.slice (some ⟨G2, 0, none⟩) d.n cap2, .map (some w2.heap.size), .bool d.off, .int .i64 d.trip] 75)) (D2 := w2.heap.size + 1) (B2 := w2.heap.size) HC.out.wf hn.1 hn.2 (blk_new' _ _ _ (by simp)) (ho2.out.kept hbox (fun _ _ x => x) (fun _ _ x => x)) ((PMap.made w2 Try.prog 3 d.n).kept ((Kept.refl NoM _).alloc _) (fun x => x)) (by omega) (by omega) (by omega)
    have KW := hk2.out.trans hbox
    have hWs : w.heap.size < ((w2.alloc (.map #[] 0)).alloc (.cells #[.slice (some ⟨G2, 0, none⟩) d.n cap2, .map (some w2.heap.size), .bool d.off, .int .i64 d.trip] 75)).heap.size := by simp; omega
    have HLO := Lib.hid (show w.heap.size ≤ w2.heap.size + 1 ∧ w.heap.size ≤ G2 ∧ w.heap.size ≤ w2.heap.size from ⟨by omega, hg2.out, by omega⟩)
    clear hbox hzz hgz
    generalize (w2.alloc (.map #[] 0)).alloc (.cells #[.slice (some ⟨G2, 0, none⟩) d.n cap2, .map (some w2.heap.size), .bool d.off, .int .i64 d.trip] 75) = W at *
    generalize w2.heap.size + 1 = D2 at *
    generalize w2.heap.size = B2 at *
    have HP0 := Lib.hid P0
    have HKW := Lib.hid KW
    have hzB := HH.out.lt.2.2
    have hWz : w.heap.size < W.heap.size := hWs
    have cWD := HKW.out.cell c1 (fun x => x)
    clear P0 KW ho2 hg2 hk2 hj2 hWs
    go_wp2_with (at_range; refine wpList_range_P rfl _ 73 rfl Try.underlying3 Try.underlying73 rfl (HH.out.kept0 HKW.out).pmap ?_; intro w0 left0 cnt0 hr0 hl0 k0 hs0)
    have HR0 := Lib.hid hr0
    have HL0 := Lib.hid hl0
    have HK0 := Lib.hid k0
    have hblt := (HP0.out left0 hl0).lt
    have HBL := Lib.hid hblt
    clear hr0 hl0 k0 hs0 hblt
    go_frame
    go_loopw [] (fun wr => ∃ (left : Nat → Bool) (cnt : Nat), PRange Try.prog 3 wr B W.heap.size d.n d.pn left cnt ∧ PD wr D2 G2 B2 (cl d left) ∧ Kept NoM w wr) (fun wr => wr.rangeLeft B W.heap.size)
    case atStart => exact ⟨left0, cnt0, HR0.out, (HP0.out left0 HL0.out).kept0 HK0.out, HKW.out.trans HK0.out⟩
    case round =>
      obtain ⟨left, cnt, hR, hP, hK⟩ := hrel
      have HRR := Lib.hid hR
      have HPP := Lib.hid hP
      have HKK := Lib.hid hK
      clear hR hP hK
      go_wp2_with (at_next; refine wpList_next_P rfl _ rfl Try.underlying3 rfl HRR.out ?_ ?_)
      · intro hl
        have he := cl_end HC.out.wf hl
        have HE := Lib.hid he
        clear hl he
        go_wp2_with fail
        go_ret
        have := HPP.out
        rw [HE.out] at this
        exact ⟨D2, G2, B2, rfl, this, HLO.out, HKK.out⟩
      · intro i p w3 cnt2 hi hp hpl hli hr1 hlt k2 hz1 hen
        have HPL := Lib.hid hpl
        have HCN := Lib.hid hlt
        have HSTEP := Lib.hid (cl_step (left := left) hp)
        have hki : (i : Int) < d.n := by omega
        have P3 := HPP.out.kept k2 (fun e => by have := HBL.out.1; omega) (fun e => by have := HBL.out.2.1; omega) (fun e => by have := HBL.out.2.2; omega)
        have PW := P3.kept0 ((Kept.refl NoM w3).alloc (.cells (pgCells p).toArray 97))
        have HPW := Lib.hid PW
        obtain ⟨_, _, cW1, _, _⟩ := PW.cells
        have rW := range_blk (blk_new w3 (.cells (pgCells p).toArray 97))
        have HRW := Lib.hid (hr1.kept ((Kept.refl NoM w3).alloc (.cells (pgCells p).toArray 97)) (fun x => x) (fun x => x))
        have HKA := Lib.hid ((HKK.out.trans' k2 (fun i hi e => by omega)).alloc (.cells (pgCells p).toArray 97))
        have hn6 : d.n < 1000000 := by omega
        have hB2 : ¬ B = B2 := by have := HLO.out.2.2; omega
        have hr2 : ¬ W.heap.size = B2 := by have := HBL.out.2.2; omega
        have hBs : w.heap.size ≤ B2 := HLO.out.2.2
        clear hp hpl hli hr1 hlt k2 hz1 P3 PW
        go_wp2_with (first | (refine wpList_alloc_pg rfl rfl ?_) | (refine wpList_store_pgn rfl _ _ rfl _ rfl rfl rfl zero128 HPL.out ?_))
        generalize hWe : w3.alloc (.cells (pgCells p).toArray 97) = W3 at *
        have hld : World.rangeAt { heap := W3.heap, tape := W3.tape, drawn := W3.drawn + 1, os := W3.os, output := W3.output } w3.heap.size 0 (pgCells p) := fun j v hv => rW j v hv
        clear hWe hen
        go_still_tail 6, (by kernel_rfl)
        refine wpStill_load_pg rfl _ rfl w3.heap.size 0 rfl hld HPL.out ?_
        repeat still_step
        refine wpStill_nil ?_
        change wpList _ _ _ _ _ W3.drew
        refine wpList_put_P rfl _ _ _ 73 rfl Try.underlying3 Try.underlying73 (n := d.n) hn6 rfl ((by rw [← cl_n left]; exact HPW.out.pmap : PMap Try.prog 3 W3 B2 d.n (cl d left).pn).blk rfl) i rfl hi p HPL.out rfl ?_
        intro w4 m4 k4q z4
        have k4 : Kept (fun b => b = B2) W3 w4 := ⟨k4q.os, k4q.tape, k4q.output, k4q.size, k4q.block⟩
        have hP4 := HPW.out.put (by rw [cl_n]; exact hi) HPL.out (by rw [cl_n]; exact m4) k4
        rw [HSTEP.out] at hP4
        have HP4 := Lib.hid hP4
        have HR4 := Lib.hid (HRW.out.kept k4 hB2 hr2)
        have HK4 := Lib.hid (HKA.out.trans' k4 (fun i hi e => by omega))
        clear hP4 m4 k4q k4 z4 hld rW cW1
        try simp only [Act.put, List.setIfInBounds_toArray, List.set_cons_zero, List.set_cons_succ]
        go_wp2_with fail
        go_roundw
        case rel => exact ⟨_, cnt2, HR4.out, HP4.out, HK4.out⟩
        case measure => rw [HR4.out.left_eq, HRR.out.left_eq]; exact HCN.out
  · have hbox := ((Kept.refl NoM w2).alloc (.cells #[.slice (some ⟨G2, 0, none⟩) d.n cap2, .map (some w.heap.size), .bool d.off, .int .i64 d.trip] 75))
    have hzz : w.heap.size + 1 ≤ w2.heap.size := by have := hj2.out.size; simpa using this
    have hgz : G2 < w2.heap.size := ho2.out.lt G2 rfl
    have hgg : w.heap.size + 1 ≤ G2 := by have := hg2.out; simpa using this
    have hmap := ((PMap.made w Try.prog 3 d.n).blk (w' := w2) (hj2.out.block w.heap.size (by simp) (fun x => x)))
    have P0 := clone_start (W := w2.alloc (.cells #[.slice (some ⟨G2, 0, none⟩) d.n cap2, .map (some w.heap.size), .bool d.off, .int .i64 d.trip] 75)) (D2 := w2.heap.size) (B2 := w.heap.size) HC.out.wf hn.1 hn.2 (blk_new _ _) (ho2.out.kept hbox (fun _ _ x => x) (fun _ _ x => x)) (hmap.kept ((Kept.refl NoM _).alloc _) (fun x => x)) (by omega) (by omega) (by omega)
    have KW := hk2.out.trans hbox
    have hWs : w.heap.size < (w2.alloc (.cells #[.slice (some ⟨G2, 0, none⟩) d.n cap2, .map (some w.heap.size), .bool d.off, .int .i64 d.trip] 75)).heap.size := by simp; omega
    have hlo1 : w.heap.size ≤ w2.heap.size := by omega
    have hlo2 : w.heap.size ≤ G2 := by omega
    clear hbox hzz hgz hgg hmap
    generalize w2.alloc (.cells #[.slice (some ⟨G2, 0, none⟩) d.n cap2, .map (some w.heap.size), .bool d.off, .int .i64 d.trip] 75) = W at *
    generalize w2.heap.size = D2 at *
    obtain ⟨B2, hB2e⟩ : ∃ B2, B2 = w.heap.size := ⟨_, rfl⟩
    have HLO := Lib.hid (show w.heap.size ≤ D2 ∧ w.heap.size ≤ G2 ∧ w.heap.size ≤ B2 from ⟨hlo1, hlo2, by omega⟩)
    rw [← hB2e] at P0 ⊢
    clear hB2e hlo1 hlo2
    have HP0 := Lib.hid P0
    have HKW := Lib.hid KW
    have hzB := HH.out.lt.2.2
    have hWz : w.heap.size < W.heap.size := hWs
    have cWD := HKW.out.cell c1 (fun x => x)
    clear P0 KW ho2 hg2 hk2 hj2 hWs
    go_wp2_with (at_range; refine wpList_range_P rfl _ 73 rfl Try.underlying3 Try.underlying73 rfl (HH.out.kept0 HKW.out).pmap ?_; intro w0 left0 cnt0 hr0 hl0 k0 hs0)
    have HR0 := Lib.hid hr0
    have HL0 := Lib.hid hl0
    have HK0 := Lib.hid k0
    have hblt := (HP0.out left0 hl0).lt
    have HBL := Lib.hid hblt
    clear hr0 hl0 k0 hs0 hblt
    go_frame
    go_loopw [] (fun wr => ∃ (left : Nat → Bool) (cnt : Nat), PRange Try.prog 3 wr B W.heap.size d.n d.pn left cnt ∧ PD wr D2 G2 B2 (cl d left) ∧ Kept NoM w wr) (fun wr => wr.rangeLeft B W.heap.size)
    case atStart => exact ⟨left0, cnt0, HR0.out, (HP0.out left0 HL0.out).kept0 HK0.out, HKW.out.trans HK0.out⟩
    case round =>
      obtain ⟨left, cnt, hR, hP, hK⟩ := hrel
      have HRR := Lib.hid hR
      have HPP := Lib.hid hP
      have HKK := Lib.hid hK
      clear hR hP hK
      go_wp2_with (at_next; refine wpList_next_P rfl _ rfl Try.underlying3 rfl HRR.out ?_ ?_)
      · intro hl
        have he := cl_end HC.out.wf hl
        have HE := Lib.hid he
        clear hl he
        go_wp2_with fail
        go_ret
        have := HPP.out
        rw [HE.out] at this
        exact ⟨D2, G2, B2, rfl, this, HLO.out, HKK.out⟩
      · intro i p w3 cnt2 hi hp hpl hli hr1 hlt k2 hz1 hen
        have HPL := Lib.hid hpl
        have HCN := Lib.hid hlt
        have HSTEP := Lib.hid (cl_step (left := left) hp)
        have hki : (i : Int) < d.n := by omega
        have P3 := HPP.out.kept k2 (fun e => by have := HBL.out.1; omega) (fun e => by have := HBL.out.2.1; omega) (fun e => by have := HBL.out.2.2; omega)
        have PW := P3.kept0 ((Kept.refl NoM w3).alloc (.cells (pgCells p).toArray 97))
        have HPW := Lib.hid PW
        obtain ⟨_, _, cW1, _, _⟩ := PW.cells
        have rW := range_blk (blk_new w3 (.cells (pgCells p).toArray 97))
        have HRW := Lib.hid (hr1.kept ((Kept.refl NoM w3).alloc (.cells (pgCells p).toArray 97)) (fun x => x) (fun x => x))
        have HKA := Lib.hid ((HKK.out.trans' k2 (fun i hi e => by omega)).alloc (.cells (pgCells p).toArray 97))
        have hn6 : d.n < 1000000 := by omega
        have hB2 : ¬ B = B2 := by have := HLO.out.2.2; omega
        have hr2 : ¬ W.heap.size = B2 := by have := HBL.out.2.2; omega
        have hBs : w.heap.size ≤ B2 := HLO.out.2.2
        clear hp hpl hli hr1 hlt k2 hz1 P3 PW
        go_wp2_with (first | (refine wpList_alloc_pg rfl rfl ?_) | (refine wpList_store_pgn rfl _ _ rfl _ rfl rfl rfl zero128 HPL.out ?_))
        generalize hWe : w3.alloc (.cells (pgCells p).toArray 97) = W3 at *
        have hld : World.rangeAt { heap := W3.heap, tape := W3.tape, drawn := W3.drawn + 1, os := W3.os, output := W3.output } w3.heap.size 0 (pgCells p) := fun j v hv => rW j v hv
        clear hWe hen
        go_still_tail 6, (by kernel_rfl)
        refine wpStill_load_pg rfl _ rfl w3.heap.size 0 rfl hld HPL.out ?_
        repeat still_step
        refine wpStill_nil ?_
        change wpList _ _ _ _ _ W3.drew
        refine wpList_put_P rfl _ _ _ 73 rfl Try.underlying3 Try.underlying73 (n := d.n) hn6 rfl ((by rw [← cl_n left]; exact HPW.out.pmap : PMap Try.prog 3 W3 B2 d.n (cl d left).pn).blk rfl) i rfl hi p HPL.out rfl ?_
        intro w4 m4 k4q z4
        have k4 : Kept (fun b => b = B2) W3 w4 := ⟨k4q.os, k4q.tape, k4q.output, k4q.size, k4q.block⟩
        have hP4 := HPW.out.put (by rw [cl_n]; exact hi) HPL.out (by rw [cl_n]; exact m4) k4
        rw [HSTEP.out] at hP4
        have HP4 := Lib.hid hP4
        have HR4 := Lib.hid (HRW.out.kept k4 hB2 hr2)
        have HK4 := Lib.hid (HKA.out.trans' k4 (fun i hi e => by omega))
        clear hP4 m4 k4q k4 z4 hld rW cW1
        try simp only [Act.put, List.setIfInBounds_toArray, List.set_cons_zero, List.set_cons_succ]
        go_wp2_with fail
        go_roundw
        case rel => exact ⟨_, cnt2, HR4.out, HP4.out, HK4.out⟩
        case measure => rw [HR4.out.left_eq, HRR.out.left_eq]; exact HCN.out
end Go.Proofs.Ytjcmnobfdidnkaa
