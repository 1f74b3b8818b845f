/- Walks: a text and the records that there are then are kept. -/
import Derived.Test.YtjcmnobfdidnkaaKJ10
set_option linter.unusedVariables false
set_option linter.unusedSimpArgs false
set_option linter.unusedSectionVars false
namespace Go.Proofs.Ytjcmnobfdidnkaa
open Go.RowKit
set_option maxHeartbeats 2000000
set_option maxRecDepth 4000
section
variable {J D G B : Nat} {d : Dk} {h : Hd} {recs : List Pg} {cl : Bool}
theorem js_put {W : World} {d' : Dk} {h' : Hd} {cl' : Bool} {va : Option Addr} {vc : Nat} (p : PD W D G B d') (hl : J < W.heap.size) (ne : ¬ InD D G B J) (hr : RdS W (InJ J D G B) 1 EStr (.slice va recs.length vc) recs) :
    JS (putB W J (jC D h' (.slice va recs.length vc) cl') 86) J D G B d' h' recs cl' ∧ Kept (InJ J D G B) W (putB W J (jC D h' (.slice va recs.length vc) cl') 86) := by
  have k : Kept (fun i => i = J) W (putB W J (jC D h' (.slice va recs.length vc) cl') 86) := Kept.putM (M := fun i => i = J) (Kept.refl _ _) rfl _ _
  have k' : Kept (InJ J D G B) W (putB W J (jC D h' (.slice va recs.length vc) cl') 86) := k.mono fun i _ x => .inl x
  have hne := ne
  unfold InD at hne
  exact ⟨⟨p.kept k (by omega) (by omega) (by omega), ne, va, vc, putB_blk _ _ _ _ hl, hr.kept k' (fun _ _ x => x)⟩, k'⟩
theorem keep_ok (hn : Hd) (a : Nat) (s : Pg) (v' : Value) (recs' : List Pg) (h2 : 2 ≤ d.n) (hal : a + s.length ≤ 1000000) (hbk : hn.bank < 256) (hok : hn.Ok) (w : World) (js : JS w J D G B d h recs cl) (hv : RdS w (InJ J D G B) 1 EStr v' recs') :
    Calls Try.prog 45 #[.pointer (some ⟨J, 0, none⟩), .int .i64 a, .string ⟨s.toArray⟩, hdV hn, v'] w fun e w' => e = .returned (.int .i64 (if jkeepF d h hn a s then 13 else 0)) ∧
      JS w' J D G B (jkeepD d h hn a s) (if jkeepF d h hn a s then h else hn) (if jkeepF d h hn a s then recs else recs') (if jkeepF d h hn a s then true else cl) ∧ Kept (InJ J D G B) w w' ∧ (jkeepF d h hn a s = false → w'.cell? ⟨J, 6, none⟩ = some v') := by
  obtain ⟨va', vc', rfl, _, _⟩ := hv.shape
  have HV := Lib.hid hv
  have HN := Lib.hid js.ne
  have HS := Lib.hid js
  have lJ : J < w.heap.size := by obtain ⟨_, _, hx, _⟩ := js.ex; exact lt_of_block hx
  have ST : Hid (∀ wx, Kept NoM w wx → Calls Try.prog 63 #[.pointer (some ⟨J, 0, none⟩), .int .i64 a, .string ⟨s.toArray⟩, hdV hn] wx fun e w' => e = .returned (.int .i64 (jstore d h hn a s).2.2) ∧ JS w' J D G B (jstore d h hn a s).1 (jstore d h hn a s).2.1 recs cl ∧ Kept (InJ J D G B) w w' ∧ Kept (InJ J D G B) wx w') :=
    Lib.hid (fun wx k => (store_ok hn a s h2 hal hbk hok wx (js.kept0 k)).mono fun e w' hh => ⟨hh.1, hh.2.1, k.of_no.trans hh.2.2, hh.2.2⟩)
  unfold jkeepF jkeepD
  have hhd := @jstore_hd d h hn a s
  generalize (jstore d h hn a s).1 = d' at *
  generalize (jstore d h hn a s).2.1 = h' at *
  generalize (jstore d h hn a s).2.2 = E at *
  obtain ⟨a0, cap0, c0, c1, c2, c3, c4, c5, c6, c7, hr⟩ := js.cells
  unfold hdV at ST
  unfold hdV
  clear js hr hv
  by_cases hE : E = 0
  · subst hE
    obtain rfl := hhd rfl
    go_enter Try.func45, Try.ntmps45
    go_wp2_with fail
    refine (ST.out _ (((Kept.refl NoM w).alloc _).alloc _)).mono ?_
    rintro e W ⟨rfl, js', k, k'⟩
    obtain ⟨a1, cap1, hj, hr1⟩ := js'.ex
    obtain ⟨W6, e6, lW, rfl⟩ : ∃ W6, W = putB W6 J (jC D h' (.slice a1 recs.length cap1) cl) 86 ∧ J < W6.heap.size ∧ W6 = W := ⟨W, putB_self hj, lt_of_block hj, rfl⟩
    have HF := Lib.hid (js_put (h' := h') (cl' := cl) js'.p lW HN.out (HV.out.kept k (fun _ _ x => x)))
    have HK := Lib.hid k
    obtain ⟨W7, hW7⟩ : ∃ W7, W6 = W7 := ⟨_, rfl⟩
    rw [hW7] at e6 lW
    have HW := Lib.hid hW7
    unfold jC at e6
    rw [hW7, e6]
    clear js' hj hr1 k k' e6 hW7 hhd
    go_wp2_with fail
    go_ret
    simp only [bne_self_eq_false, if_false, Bool.false_eq_true]
    rw [HW.out] at HF HK
    exact ⟨rfl, HF.out.1, HK.out.trans HF.out.2, cell_blk (putB_blk _ _ _ _ lW) 6 _ rfl⟩
  · have hE2 : (E != 0) = true := by simpa using hE
    have hE3 : ¬ (E = 0) := hE
    obtain ⟨p1, p2, p3⟩ := HS.out.p.lt
    have HP := Lib.hid (And.intro lJ (And.intro p1 (And.intro p2 p3)))
    clear p1 p2 p3 hhd
    have lJ1 : J < w.heap.size + 1 := by omega
    go_enter Try.func45, Try.ntmps45
    go_wp2_with fail
    have hb := blk_new (w.alloc (.cells #[.int .i64 hn.seq, .int .i64 hn.bank, .int .i64 hn.size, .int .i64 hn.count, .int .u32 hn.sum] 78)) (.cells #[.int .i64 h.seq, .int .i64 h.bank, .int .i64 h.size, .int .i64 h.count, .int .u32 h.sum] 78)
    rw [World.size_alloc] at hb
    have HB := Lib.hid hb
    clear hb
    refine (ST.out _ (((Kept.refl NoM w).alloc _).alloc _)).mono ?_
    rintro e W ⟨rfl, js', k, k'⟩
    obtain ⟨a1, cap1, hj, hr1⟩ := js'.ex
    have hbW := k'.blk HB.out (fun x => by have := HP.out; unfold InJ InD at x; omega)
    obtain ⟨W6, e6, lW, rfl⟩ : ∃ W6, W = putB W6 J (jC D h' (.slice a1 recs.length cap1) cl) 86 ∧ J < W6.heap.size ∧ W6 = W := ⟨W, putB_self hj, lt_of_block hj, rfl⟩
    have HF := Lib.hid (js_put (h' := h) (cl' := true) js'.p lW HN.out hr1)
    have HK := Lib.hid k
    have x0 := cell_blk hbW 0 _ rfl
    have x1 := cell_blk hbW 1 _ rfl
    have x2 := cell_blk hbW 2 _ rfl
    have x3 := cell_blk hbW 3 _ rfl
    have x4 := cell_blk hbW 4 _ rfl
    obtain ⟨W7, hW7⟩ : ∃ W7, W6 = W7 := ⟨_, rfl⟩
    rw [hW7] at e6 lW x0 x1 x2 x3 x4
    have HW := Lib.hid hW7
    unfold jC at e6
    rw [hW7, e6]
    clear js' hj hr1 k k' e6 hW7 hbW HB
    go_wp2_with fail
    go_ret
    simp only [hE2, if_true, Bool.true_eq_false, false_imp_iff, and_true]
    rw [HW.out] at HF HK
    exact ⟨rfl, HF.out.1, HK.out.trans HF.out.2⟩
end
end Go.Proofs.Ytjcmnobfdidnkaa
