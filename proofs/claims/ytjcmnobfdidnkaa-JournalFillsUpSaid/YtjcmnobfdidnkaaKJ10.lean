/- Walks: a text and a head are stored. -/
import Derived.Test.YtjcmnobfdidnkaaKJ9
set_option linter.unusedVariables false
set_option linter.unusedSimpArgs false
set_option linter.unusedSectionVars false
namespace Go.Proofs.Ytjcmnobfdidnkaa
open Go.RowKit
attribute [local go_sem] Oper.semAt_some
set_option maxHeartbeats 2000000
set_option maxRecDepth 4000
theorem Kept.putObj {M : Nat → Prop} {a w : World} (h : Kept M a w) {l : Nat} (hl : l < a.heap.size → M l) (o : Obj) : Kept M a (w.putObj l o) :=
  h.grown (grownBy_putObj' w l o) (fun k e hk => by cases e; exact hl hk)
theorem InCl.kept {T A a : Nat} {s : Pg} {W W' : World} {M : Nat → Prop} (h : InCl T A a s W) (k : Kept M W W') (hT : ¬ M T) (hA : ¬ M A) : InCl T A a s W' := by
  obtain ⟨h1, h2, h3, h4⟩ := h
  exact ⟨k.cell h1 hT, k.cell h2 hA, (World.frozen?_of_block (a := ⟨T, 0, none⟩) (k.block T (World.block_lt_of_cell? W _ h1) hT)).trans h3,
    (World.frozen?_of_block (a := ⟨A, 0, none⟩) (k.block A (World.block_lt_of_cell? W _ h2) hA)).trans h4⟩
/-- within store: the disk, and the three cells of the function -/
structure SL (w W : World) (J D G B : Nat) (d' : Dk) (hn : Hd) (E : Int) : Prop where
  pd : PD W D G B d'
  k : Kept (InD D G B) w W
  b0 : W.heap[w.heap.size]? = some (.cells #[.pointer (some ⟨J, 0, none⟩)] 29 (0, 0))
  b1 : W.heap[w.heap.size + 1]? = some (.cells #[.int .i64 hn.seq, .int .i64 hn.bank, .int .i64 hn.size, .int .i64 hn.count, .int .u32 hn.sum] 78 (0, 0))
  b2 : W.heap[w.heap.size + 2]? = some (.cells #[.int .i64 E] 26 (0, 0))
section
variable {J D G B : Nat} {d : Dk} {h : Hd} {recs : List Pg} {cl : Bool}
theorem SL.kept {w W W' : World} {d' : Dk} {hn : Hd} {E : Int} {M : Nat → Prop} (s : SL w W J D G B d' hn E) (k : Kept M W W') (hM : ∀ i, M i → w.heap.size + 3 ≤ i) (p : PD w D G B d) : SL w W' J D G B d' hn E := by
  obtain ⟨l1, l2, l3⟩ := p.lt
  refine ⟨s.pd.kept k (fun x => ?_) (fun x => ?_) (fun x => ?_), s.k.trans' k (fun i hi x => ?_), k.blk s.b0 (fun x => ?_), k.blk s.b1 (fun x => ?_), k.blk s.b2 (fun x => ?_)⟩ <;> (have := hM _ x; omega)
theorem res_err {fn : Func} {p : Tmp} (hf : fn.results = #[.cell p 26]) (tmps : Array Value) (w : World) (g : Nat) (E : Int) (hp : tmps[p]?.getD undef = .pointer (some ⟨g, 0, none⟩)) (hg : w.cell? ⟨g, 0, none⟩ = some (.int .i64 E)) :
    (results fn tmps).run Try.prog w = .ok (.int .i64 E) w := by
  simp only [results, hf]
  go_simp
/-- store's way out: the mark of its loop is taken, the result read -/
theorem store_out {R : Ending → World → Prop} {tm : Array Value} {D0 g : Nat} {E : Int} {W : World} {x : Exit} (hx : x = .ret ∨ x = .normal) (ht : tm[8]?.getD undef = .pointer (some ⟨g, 0, none⟩)) (hg : W.heap[g]? = some (.cells #[.int .i64 E] 26 (0, 0)))
    (hd : W.heap[D0]? = some (.deferred (some []))) (hne : g ≠ D0) (hR : ∀ W', Kept (fun i => i = D0) W W' → R (.returned (.int .i64 E)) W') :
    bodyPostM Fence.wide 9 Try.prog Try.f63 R x { tmps := tm, defers := [{ target := .collected D0, args := #[] }] } W := by
  have k : Kept (fun i => i = D0) W (W.putObj D0 (.deferred none)) := Kept.grown (Kept.refl _ _) (grownBy_putObj' W D0 _) (fun k e _ => by cases e; rfl)
  have hc := cell_blk (k.blk hg hne) 0 _ rfl
  rcases hx with rfl | rfl <;>
  exact ⟨by simp, .inl ⟨_, _, rfl, run_takeDeferred hd, _, res_err rfl _ _ g E ht hc, hR _ k⟩⟩
theorem Kept.undrew {M : Nat → Prop} {a b : World} (k : Kept M a.drew b) : Kept M a b := ⟨k.os, k.tape, k.output, k.size, k.block⟩
theorem SL.disk {w W W' : World} {d' d3 : Dk} {hn : Hd} {E : Int} (s : SL w W J D G B d' hn E) (p3 : PD W' D G B d3) (k : Kept (InD D G B) W W') (p : PD w D G B d) : SL w W' J D G B d3 hn E := by
  obtain ⟨l1, l2, l3⟩ := p.lt
  refine ⟨p3, s.k.trans k, k.blk s.b0 (fun x => ?_), k.blk s.b1 (fun x => ?_), k.blk s.b2 (fun x => ?_)⟩ <;> (unfold InD at x; omega)
theorem SL.err {w W : World} {d' : Dk} {hn : Hd} {E : Int} (s : SL w W J D G B d' hn E) (p : PD w D G B d) (E' : Int) : SL w (W.setCell ⟨w.heap.size + 2, 0, none⟩ (.int .i64 E')) J D G B d' hn E' := by
  obtain ⟨l1, l2, l3⟩ := p.lt
  have k : Kept (fun i => i = w.heap.size + 2) W (W.setCell ⟨w.heap.size + 2, 0, none⟩ (.int .i64 E')) := Kept.setCell (M := fun i => i = w.heap.size + 2) (Kept.refl _ _) (fun _ => rfl) _
  refine ⟨s.pd.kept k (fun x => ?_) (fun x => ?_) (fun x => ?_), s.k.trans' k (fun i hi x => ?_), k.blk s.b0 (fun x => ?_), k.blk s.b1 (fun x => ?_), ?_⟩ <;> (try omega)
  exact blk_set s.b2 _
theorem j_opn {W : World} {va : Option Addr} {n vc : Nat} (h1 : W.heap[J]? = some (.cells (jC D h (.slice va n vc) cl) 86 (0, 0))) : ∃ w0, W = putB w0 J (jC D h (.slice va n vc) cl) 86 ∧ J < w0.heap.size ∧ w0 = W ∧
    (∀ h' : Hd, (putB w0 J (jC D h' (.slice va n vc) cl) 86).heap[J]? = some (.cells (jC D h' (.slice va n vc) cl) 86 (0, 0)) ∧ Kept (fun i => i = J) W (putB w0 J (jC D h' (.slice va n vc) cl) 86)) := by
  refine ⟨W, putB_self h1, lt_of_block h1, rfl, fun h' => ⟨putB_blk _ _ _ _ (lt_of_block h1), Kept.putM (M := fun i => i = J) (Kept.refl _ _) rfl _ _⟩⟩
theorem js_at {w W : World} {d' : Dk} {h' : Hd} {va : Option Addr} {vc : Nat} (p : PD W D G B d') (hj : W.heap[J]? = some (.cells (jC D h' (.slice va recs.length vc) cl) 86 (0, 0))) (hr : RdS w (InJ J D G B) 1 EStr (.slice va recs.length vc) recs) (k : Kept (InJ J D G B) w W) (ne : ¬ InD D G B J) : JS W J D G B d' h' recs cl :=
  ⟨p, ne, va, vc, hj, hr.kept k (fun _ _ x => x)⟩
theorem store_ok (hn : Hd) (a : Nat) (s : Pg) (h2 : 2 ≤ d.n) (hal : a + s.length ≤ 1000000) (hbk : hn.bank < 256) (hok : hn.Ok) (w : World) (js : JS w J D G B d h recs cl) :
    Calls Try.prog 63 #[.pointer (some ⟨J, 0, none⟩), .int .i64 a, .string ⟨s.toArray⟩, hdV hn] w fun e w' => e = .returned (.int .i64 (jstore d h hn a s).2.2) ∧ JS w' J D G B (jstore d h hn a s).1 (jstore d h hn a s).2.1 recs cl ∧ Kept (InJ J D G B) w w' := by
  obtain ⟨f, hf⟩ : ∃ f, d.jfirst hn.bank = f := ⟨_, rfl⟩
  have HS := Lib.hid js
  have HP := js.p.lt
  refine (callsIn_wide (n := 9)).1 (callsIn_of_wp_marks Try.func63 rfl trivial (wpIn_wide.2 ?_))
  unfold hdV
  simp only [Try.ntmps63, List.size_toArray, List.length_cons, List.length_nil, Nat.reduceAdd, Nat.reduceSub, Array.replicate_succ, Array.replicate_zero, List.push_toArray, List.append_toArray, List.nil_append, List.cons_append]
  go_wp2_with (go_at_call 72; refine (parts_ok a s _).mono ?_; rintro e w5 ⟨rfl, hw5⟩)
  obtain ⟨w5, hw5⟩ : ∃ w5, ((((w.alloc (.cells #[.pointer (some ⟨J, 0, none⟩)] 29)).alloc (.cells #[.int .i64 hn.seq, .int .i64 hn.bank, .int .i64 hn.size, .int .i64 hn.count, .int .u32 hn.sum] 78)).alloc (.cells #[.int .i64 0] 26)).alloc (.cells #[.int .i64 a] 3)).alloc (.cells #[.string ⟨s.toArray⟩] 9) = w5 := ⟨_, rfl⟩
  rw [hw5]
  have hsz : w5.heap.size = w.heap.size + 5 := by rw [← hw5]; simp
  have C5 : InCl (w.heap.size + 4) (w.heap.size + 3) a s w5 := by
    have x1 : w5.heap[w.heap.size + 4]? = some (.cells #[.string ⟨s.toArray⟩] 9 (0, 0)) := by rw [← hw5]; exact blk_new' _ _ _ (by simp)
    have x2 : w5.heap[w.heap.size + 3]? = some (.cells #[.int .i64 a] 3 (0, 0)) := by rw [← hw5]; exact blk_old (blk_new' _ _ _ (by simp)) _
    exact ⟨cell_blk x1 0 _ rfl, cell_blk x2 0 _ rfl, free_blk x1 0, free_blk x2 0⟩
  have S5 : SL w w5 J D G B d hn 0 := by
    have k5 : Kept NoM w w5 := by rw [← hw5]; exact (((((Kept.refl _ w).alloc _).alloc _).alloc _).alloc _).alloc _
    refine ⟨js.p.kept0 k5, k5.of_no, ?_, ?_, ?_⟩
    · rw [← hw5]; exact blk_old (blk_old (blk_old (blk_old (blk_new' _ _ _ rfl) _) _) _) _
    · rw [← hw5]; exact blk_old (blk_old (blk_old (blk_new' _ _ _ (by simp)) _) _) _
    · rw [← hw5]; exact blk_old (blk_old (blk_new' _ _ _ (by simp)) _) _
  have HN := Lib.hid js.ne
  obtain ⟨va, vc, hJw, hRw⟩ := js.ex
  have HJW := Lib.hid hJw
  have HRW := Lib.hid hRw
  clear hJw hRw
  have HC := Lib.hid js.cells
  clear hw5 js
  refine wp_rangeFunc_from (lb := #[.pointer (some ⟨w.heap.size + 4, 0, none⟩), .pointer (some ⟨w.heap.size + 3, 0, none⟩)]) rfl (enters_of Try.func77 (by kernel_rfl) rfl) (fun fn rec hrec => ?_)
  obtain ⟨wl, hwl⟩ : ∃ wl, (w5.alloc (.deferred (some []))).alloc (.loop (rec .ready none)) = wl := ⟨_, rfl⟩
  rw [hwl]
  have kl : Kept NoM w5 wl := by rw [← hwl]; exact ((Kept.refl _ _).alloc _).alloc _
  have hl1 : wl.heap[w5.heap.size + 1]? = some (.loop (rec .ready none)) := by rw [← hwl]; exact blk_new' _ _ _ (by simp)
  have hl2 : wl.heap[w5.heap.size]? = some (.deferred (some [])) := by rw [← hwl]; exact blk_old (blk_new _ _) _
  refine (partsY_ok 8 (w5.heap.size + 1) (w.heap.size + 4) (w.heap.size + 3) (by omega)
    (fun a' s' W => ∃ d', SL w W J D G B d' hn 0 ∧ d'.n = d.n ∧ InCl (w.heap.size + 4) (w.heap.size + 3) a' s' W ∧ a' + s'.length ≤ 1000000 ∧ W.heap[w5.heap.size + 1]? = some (.loop (rec .ready none)) ∧ W.heap[w5.heap.size]? = some (.deferred (some [])) ∧ jputs f d a s = jputs f d' a' s')
    (fun W => ∃ d' E, SL w W J D G B d' hn E ∧ E ≠ 0 ∧ d'.n = d.n ∧ W.heap[w5.heap.size + 1]? = some (.loop (rec .done (some .ret))) ∧ W.heap[w5.heap.size]? = some (.deferred (some [])) ∧ jputs f d a s = (d', E))
    ?_ ?_ a s wl ⟨d, S5.kept kl (fun _ x => x.elim) HS.out.p, rfl, C5.kept kl (fun x => x) (fun x => x), hal, hl1, hl2, rfl⟩).mono ?_
  · rintro a' s' W ⟨d', _, _, h1, h2, _⟩
    exact ⟨h1, h2⟩
  · rintro a' s' W ⟨d', hS, hdn, hcl, hbd, hlp, hdf, hjp⟩ hpos
    refine yield_from hrec hlp rfl ?_
    clear hrec kl hl1 hl2 C5 S5 hwl
    have HSZ := Lib.hid hsz
    obtain ⟨l, hl⟩ : ∃ l, w5.heap.size + 1 = l := ⟨_, rfl⟩
    have hl9 : w.heap.size + 6 = l := by omega
    rw [hl] at hlp ⊢
    clear hsz
    obtain ⟨Wd, hWd⟩ : ∃ Wd, W.drew = Wd := ⟨_, rfl⟩
    have hlp' : Wd.heap[l]? = some (.loop (rec .ready none)) := by rw [← hWd]; exact hlp
    have kd : Kept NoM W Wd := by rw [← hWd]; exact (Kept.refl _ _).drew
    have SD := hS.kept kd (fun _ x => x.elim) HS.out.p
    have CD := hcl.kept kd (fun x => x) (fun x => x)
    rw [hWd]
    have hdf' : Wd.heap[w5.heap.size]? = some (.deferred (some [])) := by rw [← hWd]; exact hdf
    have HX := Lib.hid (And.intro hlp' (And.intro SD (And.intro CD (And.intro hdf' (And.intro kd hdn)))))
    have HL := Lib.hid hl
    have HL9 := Lib.hid hl9
    clear hlp hdf hdf' hS hdn hcl hlp' kd SD CD hWd hl hl9
    gi_wp2
    refine ⟨blk_old HX.out.1 _, ?_⟩
    obtain ⟨W2, hW2⟩ : ∃ W2, (Wd.alloc (.cells #[.int .i64 ((a' : Int) / 128), .int .i64 ((a' : Int) % 128)] 129)).putObj l (.loop (rec .busy none)) = W2 := ⟨_, rfl⟩
    rw [hW2]
    have hXl : Wd.heap.size ≠ l := fun e => by have := lt_of_block HX.out.1; omega
    have ka : Kept NoM Wd (Wd.alloc (.cells #[.int .i64 ((a' : Int) / 128), .int .i64 ((a' : Int) % 128)] 129)) := (Kept.refl _ _).alloc _
    have kp : Kept (fun i => i = l) Wd W2 := by rw [← hW2]; exact Kept.putObj (M := fun i => i = l) (Kept.of_no ka) (fun _ => rfl) _
    have hln : w.heap.size + 3 ≤ l := by have := HL9.out; omega
    have S2 := HX.out.2.1.kept kp (fun i e => by subst e; exact hln) HS.out.p
    have C2 := HX.out.2.2.1.kept kp (fun e => by have := HL9.out; omega) (fun e => by have := HL9.out; omega)
    have hx : W2.heap[Wd.heap.size]? = some (.cells #[.int .i64 ((a' : Int) / 128), .int .i64 ((a' : Int) % 128)] 129 (0, 0)) := by
      rw [← hW2, World.putObj_heap_other hXl]; exact blk_new _ _
    have hb2 : W2.heap[l]? = some (.loop (rec .busy none)) := by
      rw [← hW2]; exact World.putObj_heap_same (Nat.lt_of_lt_of_le (lt_of_block HX.out.1) ka.size)
    have hdf2 : W2.heap[w5.heap.size]? = some (.deferred (some [])) := kp.blk (HX.out.2.2.2.1) (fun e => by have := HL9.out; have := HSZ.out; omega)
    have c1 := cell_blk hx 0 _ rfl
    have c2 := cell_blk hx 1 _ rfl
    have c3 := cell_blk S2.b0 0 _ rfl
    have c4 := cell_blk S2.b1 1 _ rfl
    obtain ⟨_, _, y0, _⟩ := HC.out
    have c5 : W2.cell? ⟨J, 0, none⟩ = some (.pointer (some ⟨D, 0, none⟩)) := S2.k.cell y0 HN.out
    have hdn := HX.out.2.2.2.2.2
    have hnh := HX.out.2.1.pd.n_hi.2
    have FI := Lib.hid ((first_ok W2.drew (S2.pd.kept0 (Kept.refl _ _).drew) (by omega) hn.bank hbk).mono (fun e w' hh => (And.intro hh.1 hh.2.symm : e = .returned (.int .i64 (d'.jfirst hn.bank)) ∧ w' = W2.drew)))
    have hfb : d'.jfirst hn.bank ≤ 1100000 := by
      have hj : d'.jp ≤ 4096 := by unfold Dk.jp; omega
      have := Nat.mul_le_mul (show hn.bank ≤ 255 by omega) hj
      unfold Dk.jfirst; omega
    have hjf : d'.jfirst hn.bank = f := by rw [← hf]; unfold Dk.jfirst Dk.jp; rw [hdn]
    rw [hjf] at FI hfb
    have Q1 := Lib.hid (show IntKind.i64.wrap ((f : Int) + (a' : Int) / 128) = (f : Int) + (a' : Int) / 128 from IntWalk.i64_in _ (by omega))
    have WR := Lib.hid (write_ok ((f : Int) + (a' : Int) / 128) ((a' : Int) % 128) (s'.take (partN a' s')) (by rw [List.length_take]; omega) W2.drew (S2.pd.kept0 (Kept.refl _ _).drew))
    have hn3 := Dk.n_write (d := d') ((f : Int) + (a' : Int) / 128) ((a' : Int) % 128) (s'.take (partN a' s'))
    have JP := Lib.hid hjp
    rw [jputs_step f d' a' s' hpos] at JP
    generalize d'.write ((f : Int) + (a' : Int) / 128) ((a' : Int) % 128) (s'.take (partN a' s')) = d3 at *
    generalize d'.writeE ((f : Int) + (a' : Int) / 128) ((a' : Int) % 128) (s'.take (partN a' s')) = E at *
    have HN3 := Lib.hid (hn3.trans hdn)
    have HW3 : Hid (∀ W3, PD W3 D G B d3 → Kept (InD D G B) W2.drew W3 → SL w W3 J D G B d3 hn 0 ∧ InCl (w.heap.size + 4) (w.heap.size + 3) a' s' W3 ∧ W3.heap[l]? = some (.loop (rec .busy none)) ∧ W3.heap[w5.heap.size]? = some (.deferred (some []))) := Lib.hid (fun W3 p3 k3 => by
      have l123 := HP
      have h9 := HL9.out
      have hz5 := HSZ.out
      have kk := k3.undrew
      refine ⟨S2.disk p3 kk HS.out.p, C2.kept kk (fun x => ?_) (fun x => ?_), kk.blk hb2 (fun x => ?_), kk.blk hdf2 (fun x => ?_)⟩ <;> (unfold InD at x; omega))
    have HS2 := Lib.hid (And.intro S2 (And.intro C2 (And.intro hb2 hdn)))
    clear S2 C2 hb2 hx kp ka hW2 hXl hln y0 hjf hf
    clear hjp hdf2 hn3 hdn hnh hfb
    have HPW := Lib.hid (And.intro hpos hbd)
    clear hpos hbd
    by_cases hE : E = 0
    · subst hE
      rw [if_pos rfl] at JP
      gi_wp2
      refine wpIn_region_still_tail (ro := some l) 17 (by kernel_rfl) (by kernel_rfl) (by kernel_rfl) ?_
      simp only [List.take_succ_cons, List.take_zero, List.drop_succ_cons, List.drop_zero]
      repeat still_step
      still_call FI.out
      repeat still_step
      refine wpStill_nil ?_
      rw [Q1.out]
      change wpListIn (Fence.wide.inRound l) _ _ _ _ _ _ W2.drew
      unfold strV at WR
      clear c1 c2 c3 c4 c5 FI
      gi_wp2_with (refine ⟨trivial, ?_⟩; gi_at_call 58; refine CallsIn.inRound l ((callsIn_wide (n := 6)).2 (WR.out.mono ?_)); rintro e W3 ⟨rfl, p3, k3⟩)
      obtain ⟨S3, C3, b3, f3⟩ := HW3.out W3 p3 k3
      have h9 := HL9.out
      have hz5 := HSZ.out
      have kp : Kept (fun i => i = l) W3 (W3.putObj l (.loop (rec .ready none))) := Kept.putObj (M := fun i => i = l) (Kept.refl _ _) (fun _ => rfl) _
      have C4 := C3.kept kp (fun x => by omega) (fun x => by omega)
      refine ⟨b3, .inl ⟨rfl, C4, d3, ?_⟩⟩
      have k5 : Kept (fun i => i = l ∨ i = w.heap.size + 3 ∨ i = w.heap.size + 4) W3 (((W3.putObj l (.loop (rec .ready none))).setCell ⟨w.heap.size + 3, 0, none⟩ (.int .i64 ((a' : Int) + partN a' s'))).setCell ⟨w.heap.size + 4, 0, none⟩ (.string ⟨(s'.drop (partN a' s')).toArray⟩)).drew :=
        (Kept.setCell (Kept.setCell (kp.mono (fun i _ x => .inl x)) (fun _ => .inr (.inl rfl)) _) (fun _ => .inr (.inr rfl)) _).drew
      refine ⟨S3.kept k5 (fun i x => by omega) HS.out.p, HN3.out, ?_, ?_, ?_, ?_, JP.out⟩
      · have hst := C4.step (by omega) (a' + partN a' s') (s'.drop (partN a' s'))
        rw [Int.natCast_add] at hst
        exact hst
      · have := HPW.out.2
        rw [List.length_drop]; unfold partN; omega
      · exact (blk_set_ne (blk_set_ne (World.putObj_heap_same (lt_of_block b3)) (by omega) _) (by omega) _)
      · exact (blk_set_ne (blk_set_ne ((World.putObj_heap_other (by omega)).trans f3) (by omega) _) (by omega) _)
    · rw [if_neg hE] at JP
      have hE2 : (E != 0) = true := by simpa using hE
      gi_wp2
      refine wpIn_region_still_tail (ro := some l) 17 (by kernel_rfl) (by kernel_rfl) (by kernel_rfl) ?_
      simp only [List.take_succ_cons, List.take_zero, List.drop_succ_cons, List.drop_zero]
      repeat still_step
      still_call FI.out
      repeat still_step
      refine wpStill_nil ?_
      rw [Q1.out]
      change wpListIn (Fence.wide.inRound l) _ _ _ _ _ _ W2.drew
      unfold strV at WR
      clear c1 c2 c3 c4 c5 FI
      gi_wp2_with (refine ⟨trivial, ?_⟩; gi_at_call 58; refine CallsIn.inRound l ((callsIn_wide (n := 6)).2 (WR.out.mono ?_)); rintro e W3 ⟨rfl, p3, k3⟩; have c9 := cell_blk (HW3.out W3 p3 k3).1.b2 0 _ rfl; have f9 := free_blk (HW3.out W3 p3 k3).1.b2 0)
      obtain ⟨S3, C3, b3, f3⟩ := HW3.out W3 p3 k3
      have h9 := HL9.out
      have hz5 := HSZ.out
      have k6 : Kept (fun i => i = w.heap.size + 2) W3 (W3.setCell ⟨w.heap.size + 2, 0, none⟩ (.int .i64 E)) := Kept.setCell (M := fun i => i = w.heap.size + 2) (Kept.refl _ _) (fun _ => rfl) _
      have b6 := k6.blk b3 (fun x => by omega)
      have S6 := S3.err HS.out.p E
      have k7 : Kept (fun i => i = l) (W3.setCell ⟨w.heap.size + 2, 0, none⟩ (.int .i64 E)) ((W3.setCell ⟨w.heap.size + 2, 0, none⟩ (.int .i64 E)).putObj l (.loop (rec .done (some .ret)))) := Kept.putObj (M := fun i => i = l) (Kept.refl _ _) (fun _ => rfl) _
      exact ⟨b6, .inr ⟨rfl, d3, E, S6.kept k7 (fun i x => by omega) HS.out.p, hE, HN3.out, World.putObj_heap_same (lt_of_block b6), k7.blk (k6.blk f3 (fun x => by omega)) (fun x => by omega), JP.out⟩⟩
  · rintro e W ⟨⟨v, rfl⟩, ⟨a', d', hS, hdn, hcl, hbd, hlp, hdf, hjp⟩ | ⟨d', E, hS, hE, hdn, hlp, hdf, hjp⟩⟩
    · refine ⟨none, _, by have := run_endLoop (P := Try.prog) hlp (by rw [hrec]; simp); rw [hrec] at this; exact this, ?_⟩
      rw [jputs_nil] at hjp
      have h9 : w5.heap.size + 1 ≥ w.heap.size + 6 := by omega
      obtain ⟨W4, hW4⟩ : ∃ W4, W.putObj (w5.heap.size + 1) (.loop (rec .exhausted none)) = W4 := ⟨_, rfl⟩
      have kp : Kept (fun i => i = w5.heap.size + 1) W W4 := by rw [← hW4]; exact Kept.putObj (M := fun i => i = w5.heap.size + 1) (Kept.refl _ _) (fun _ => rfl) _
      have S4 := hS.kept kp (fun i x => by omega) HS.out.p
      have f4 := kp.blk hdf (fun x => by omega)
      rw [hrec] at hW4
      simp only [] at hW4 ⊢
      rw [hW4]
      clear hW4 kp hS hcl hlp hdf hrec hwl kl hl1 hl2 C5 S5 hbd
      obtain ⟨_, _, y0, _⟩ := HC.out
      have c3 := cell_blk S4.b0 0 _ rfl
      have c5 : W4.cell? ⟨J, 0, none⟩ = some (.pointer (some ⟨D, 0, none⟩)) := S4.k.cell y0 HN.out
      have FL := Lib.hid (flush_ok W4 S4.pd)
      have HF4 := Lib.hid f4
      have HS4 := Lib.hid S4
      have HJP := Lib.hid hjp
      have H9 := Lib.hid h9
      obtain ⟨E, hE⟩ : ∃ E, d'.flushE = E := ⟨_, rfl⟩
      obtain ⟨d1, hd1⟩ : ∃ d1, d'.flush = d1 := ⟨_, rfl⟩
      rw [hE, hd1] at FL
      have HE := Lib.hid hE
      have HD1 := Lib.hid hd1
      clear f4 S4 hjp h9 y0 hE hd1
      by_cases hE : E = 0
      · subst hE
        have HY : Hid (∀ W5, PD W5 D G B d1 → Kept (InD D G B) W4 W5 → (W5.cell? ⟨w.heap.size + 1, 0, none⟩ = some (.int .i64 hn.seq) ∧ W5.cell? ⟨w.heap.size + 1, 1, none⟩ = some (.int .i64 hn.bank) ∧ W5.cell? ⟨w.heap.size + 1, 2, none⟩ = some (.int .i64 hn.size) ∧ W5.cell? ⟨w.heap.size + 1, 3, none⟩ = some (.int .i64 hn.count) ∧ W5.cell? ⟨w.heap.size + 1, 4, none⟩ = some (.int .u32 hn.sum)) ∧ W5.cell? ⟨w.heap.size, 0, none⟩ = some (.pointer (some ⟨J, 0, none⟩))) := Lib.hid (fun W5 p5 k5 => by
          have S5 := HS4.out.disk p5 k5 HS.out.p
          exact ⟨⟨cell_blk S5.b1 0 _ rfl, cell_blk S5.b1 1 _ rfl, cell_blk S5.b1 2 _ rfl, cell_blk S5.b1 3 _ rfl, cell_blk S5.b1 4 _ rfl⟩, cell_blk S5.b0 0 _ rfl⟩)
        have lJ0 : J < w.heap.size := by obtain ⟨_, _, hx, _⟩ := HS.out.ex; exact lt_of_block hx
        have lJ1 : J < w.heap.size + 1 := by omega
        go_wp2_with (go_at_call 60; refine FL.out.mono ?_; rintro e W5 ⟨rfl, p5, k5⟩; obtain ⟨W6, e6, lJ, x6, x7⟩ := j_opn ((HS4.out.k.trans k5).blk HJW.out HN.out); obtain ⟨⟨x0, x1, x2, x3, x4⟩, x5⟩ := HY.out W5 p5 k5; rw [← x6] at x0 x1 x2 x3 x4 x5; have HX6 := Lib.hid x6; clear x6; unfold jC at e6 x7; have HX7 := Lib.hid x7; clear x7; have HK5 := Lib.hid (And.intro k5 p5); clear k5 p5; subst e6)
        obtain ⟨j7, k7⟩ := HX7.out hn
        obtain ⟨W7, hW7⟩ : ∃ W7, putB W6 J #[.pointer (some ⟨D, 0, none⟩), .int .i64 hn.seq, .int .i64 hn.bank, .int .i64 hn.size, .int .i64 hn.count, .int .u32 hn.sum, .slice va recs.length vc, .bool cl] 86 = W7 := ⟨_, rfl⟩
        rw [hW7] at j7 k7 ⊢
        have K7 : Kept (InJ J D G B) W4 W7 := (HK5.out.1.mono (fun i _ x => .inr x)).trans (k7.mono (fun i _ x => .inl x))
        have p7 : PD W7 D G B d1 := HK5.out.2.kept k7 (fun e => HN.out (.inl e.symm)) (fun e => HN.out (.inr (.inl e.symm))) (fun e => HN.out (.inr (.inr e.symm)))
        have hdn1 : d1.n = d.n := by rw [← HD1.out, Dk.n_flush]; exact hdn
        have HB : Hid (∀ W8, Kept (InJ J D G B) W4 W8 → W8.heap[w.heap.size]? = some (.cells #[.pointer (some ⟨J, 0, none⟩)] 29 (0, 0)) ∧ W8.heap[w.heap.size + 2]? = some (.cells #[.int .i64 0] 26 (0, 0)) ∧ W8.heap[w.heap.size + 5]? = some (.deferred (some [])) ∧ Kept (InJ J D G B) w W8) := Lib.hid (fun W8 k8 => by
          have l123 := HP
          have hz5 := hsz
          have S := HS4.out
          refine ⟨k8.blk S.b0 (fun x => ?_), k8.blk S.b2 (fun x => ?_), k8.blk (by rw [← hz5]; exact HF4.out) (fun x => ?_), (S.k.mono (fun i _ x => .inr x)).trans k8⟩ <;> (unfold InJ InD at x; omega))
        have HF := Lib.hid hf
        have HJ0 := Lib.hid lJ0
        have HD := Lib.hid hdn1
        clear hW7 k7 HX7 HX6 HK5 x0 x1 x2 x3 x4 x5 FL HY c3 c5 hdn1 lJ lJ0 lJ1 hf hsz hdn
        go_loopw [53] (fun i wr => ∃ (k : Nat) (dk : Dk), i = .int .i64 k ∧ k ≤ 2 ∧ (PD wr D G B dk ∧ wr.heap[J]? = some (.cells (jC D hn (.slice va recs.length vc) cl) 86 (0, 0))) ∧ dk.n = d.n ∧ Kept (InJ J D G B) W4 wr ∧ (k = 0 → dk = d1) ∧ (k = 1 → jwrite d1 hn 0 = (dk, 0)) ∧ (k = 2 → ∃ d2, jwrite d1 hn 0 = (d2, 0) ∧ jwrite d2 hn 1 = (dk, 0))) (fun i _ => 2 - (intOf i).toNat)
        case atStart => exact ⟨0, d1, rfl, by omega, ⟨p7, j7⟩, HD.out, K7, fun _ => rfl, fun h => by omega, fun h => by omega⟩
        case round =>
          obtain ⟨k, dk, rfl, hk, ⟨pk, jk⟩, hnk, Kk, p0, p1, p2⟩ := hrel
          obtain ⟨b0, b2, bd, kw⟩ := HB.out wr Kk
          have jsk := js_at pk jk HRW.out kw HN.out
          have c3 := cell_blk b0 0 _ rfl
          have HBk := Lib.hid (And.intro b0 (And.intro b2 (And.intro bd kw)))
          have HKk := Lib.hid (And.intro Kk (And.intro pk jk))
          have HPk := Lib.hid (And.intro p0 (And.intro p1 (And.intro p2 hnk)))
          clear b0 b2 bd kw Kk p0 p1 p2 j7 p7 K7 pk jk
          by_cases hk2 : k < 2
          · have hki : (k : Int) < 2 := by omega
            obtain ⟨d2, hd2⟩ : ∃ d2, (jwrite dk hn k).1 = d2 := ⟨_, rfl⟩
            obtain ⟨E, hE⟩ : ∃ E, (jwrite dk hn k).2 = E := ⟨_, rfl⟩
            have JW := Lib.hid (jwrite_ok k (by omega) hk2 hok wr jsk)
            rw [hd2, hE] at JW
            have hpr : jwrite dk hn k = (d2, E) := by rw [← hd2, ← hE]
            have HPR := Lib.hid hpr
            clear hd2 hE hpr jsk hnk
            by_cases hE : E = 0
            · subst hE
              go_wp2_with (go_at_call 37; refine JW.out.mono ?_; rintro e W8 ⟨rfl, js8, k8⟩; have HK8 := Lib.hid (And.intro (And.intro js8.p (k8.blk HKk.out.2.2 HN.out)) k8); clear js8 k8)
              have hn2 : d2.n = d.n := by have := jwrite_n dk hn k; rw [HPR.out, HPk.out.2.2.2] at this; exact this
              go_roundw
              case rel =>
                refine ⟨k + 1, d2, by go_num, by omega, HK8.out.1, hn2, HKk.out.1.trans (HK8.out.2.mono (fun i _ x => .inr x)), fun h => by omega, fun h => ?_, fun h => ?_⟩
                · obtain rfl : k = 0 := by omega
                  rw [← HPk.out.1 rfl]; exact HPR.out
                · obtain rfl : k = 1 := by omega
                  exact ⟨dk, HPk.out.2.1 rfl, HPR.out⟩
              case measure => simp [intOf]; omega
            · have hE2 : (E != 0) = true := by simpa using hE
              go_wp2_with (go_at_call 37; refine JW.out.mono ?_; rintro e W8 ⟨rfl, js8, k8⟩; have HK8 := Lib.hid (And.intro (And.intro js8.p (k8.blk HKk.out.2.2 HN.out)) k8); obtain ⟨_, b28, _, _⟩ := HB.out W8 (HKk.out.1.trans (k8.mono (fun i _ x => .inr x))); have c9 := cell_blk b28 0 _ rfl; have f9 := free_blk b28 0; clear js8 k8 b28)
              have Q8 := HKk.out.1.trans (HK8.out.2.mono (fun i _ x => .inr x))
              obtain ⟨_, b28, bd8, kw8⟩ := HB.out W8 Q8
              have l123 := HP
              have lJ := HJ0.out
              have k9 : Kept (fun i => i = w.heap.size + 2) W8 (W8.setCell ⟨w.heap.size + 2, 0, none⟩ (.int .i64 E)) := Kept.setCell (M := fun i => i = w.heap.size + 2) (Kept.refl _ _) (fun _ => rfl) _
              refine store_out (.inl rfl) rfl (blk_set b28 _) (k9.blk bd8 (fun x => by omega)) (by omega) (fun W' k10 => ?_)
              have hres : jstore d h hn a s = (d2, hn, E) := by
                rcases (by omega : k = 0 ∨ k = 1) with rfl | rfl
                · exact jstore3 HF.out HJP.out HD1.out HE.out (by rw [← HPk.out.1 rfl]; exact HPR.out) hE
                · exact jstore4 HF.out HJP.out HD1.out HE.out (HPk.out.2.1 rfl) HPR.out
              rw [hres]
              have k11 : Kept (fun i => w.heap.size ≤ i) W8 W' := (k9.mono (fun i _ x => by omega)).trans (k10.mono (fun i _ x => by omega))
              have kfin := kw8.trans' k11 (fun i hi x => by omega)
              exact ⟨rfl, js_at (HK8.out.1.1.kept k11 (by omega) (by omega) (by omega)) (k11.blk HK8.out.1.2 (by omega)) HRW.out kfin HN.out, kfin⟩
          · obtain rfl : k = 2 := by omega
            have c9 := cell_blk HBk.out.2.1 0 _ rfl
            have f9 := free_blk HBk.out.2.1 0
            go_wp2_with fail
            have l123 := HP
            have lJ := HJ0.out
            obtain ⟨b0, b2, bd8, kw8⟩ := HBk.out
            have k9 : Kept (fun i => i = w.heap.size + 2) wr (wr.setCell ⟨w.heap.size + 2, 0, none⟩ (.int .i64 0)) := Kept.setCell (M := fun i => i = w.heap.size + 2) (Kept.refl _ _) (fun _ => rfl) _
            refine store_out (.inl rfl) rfl (blk_set b2 _) (k9.blk bd8 (fun x => by omega)) (by omega) (fun W' k10 => ?_)
            obtain ⟨d2, e1, e2⟩ := HPk.out.2.2.1 trivial
            rw [jstore4 HF.out HJP.out HD1.out HE.out e1 e2]
            have k11 : Kept (fun i => w.heap.size ≤ i) wr W' := (k9.mono (fun i _ x => by omega)).trans (k10.mono (fun i _ x => by omega))
            have kfin := kw8.trans' k11 (fun i hi x => by omega)
            exact ⟨rfl, js_at (HKk.out.2.1.kept k11 (by omega) (by omega) (by omega)) (k11.blk HKk.out.2.2 (by omega)) HRW.out kfin HN.out, kfin⟩
      · have hE2 : (E != 0) = true := by simpa using hE
        go_wp2_with (go_at_call 60; refine FL.out.mono ?_; rintro e W5 ⟨rfl, p5, k5⟩; have c9 := cell_blk (HS4.out.disk p5 k5 HS.out.p).b2 0 _ rfl; have f9 := free_blk (HS4.out.disk p5 k5 HS.out.p).b2 0)
        have S5 := HS4.out.disk p5 k5 HS.out.p
        have hz5 := hsz
        have f5 := k5.blk HF4.out (fun x => by have l123 := HP; unfold InD at x; omega)
        have k6 : Kept (fun i => i = w.heap.size + 2) W5 (W5.setCell ⟨w.heap.size + 2, 0, none⟩ (.int .i64 E)) := Kept.setCell (M := fun i => i = w.heap.size + 2) (Kept.refl _ _) (fun _ => rfl) _
        have S6 := S5.err HS.out.p E
        refine store_out (.inl rfl) rfl S6.b2 (k6.blk (by rw [← hz5]; exact f5) (fun x => by omega)) (by omega) (fun W' k7 => ?_)
        have S7 := S6.kept k7 (fun i x => by omega) HS.out.p
        rw [jstore2 hf HJP.out HD1.out HE.out hE]
        exact ⟨rfl, HS.out.disk S7.pd S7.k, S7.k.mono (fun i _ x => .inr x)⟩
    · refine ⟨some .ret, _, by have := run_endLoop (P := Try.prog) hlp (by rw [hrec]; simp); rw [hrec] at this; exact this, ?_⟩
      have h9 : w5.heap.size + 1 ≥ w.heap.size + 6 := by omega
      obtain ⟨W4, hW4⟩ : ∃ W4, W.putObj (w5.heap.size + 1) (.loop (rec .exhausted (some .ret))) = W4 := ⟨_, rfl⟩
      have kp : Kept (fun i => i = w5.heap.size + 1) W W4 := by rw [← hW4]; exact Kept.putObj (M := fun i => i = w5.heap.size + 1) (Kept.refl _ _) (fun _ => rfl) _
      have S4 := hS.kept kp (fun i x => by omega) HS.out.p
      have f4 := kp.blk hdf (fun x => by omega)
      rw [hrec] at hW4
      simp only [] at hW4 ⊢
      rw [hW4]
      clear hW4 kp hS hlp hdf hrec hwl kl hl1 hl2 C5 S5
      refine wpIn_ret ?_
      simp only [Exit.inBlock, Exit.then]
      refine store_out (.inl rfl) rfl S4.b2 f4 (by omega) (fun W' k7 => ?_)
      have S7 := S4.kept k7 (fun i x => by omega) HS.out.p
      rw [jstore1 hf hjp hE]
      exact ⟨rfl, HS.out.disk S7.pd S7.k, S7.k.mono (fun i _ x => .inr x)⟩
end
end Go.Proofs.Ytjcmnobfdidnkaa
