/- Walks: the journal's small functions. -/
import Derived.Test.YtjcmnobfdidnkaaKJ4
import Derived.Test.YtjcmnobfdidnkaaKD0
import Derived.Test.YtjcmnobfdidnkaaKBX
import Derived.Test.YtjcmnobfdidnkaaKA12
import Derived.BigQuiet
set_option linter.unusedVariables false
set_option linter.unusedSimpArgs false
set_option linter.unusedSectionVars false
namespace Go.Proofs.Ytjcmnobfdidnkaa
open Go.RowKit
set_option maxHeartbeats 2000000
set_option maxRecDepth 4000
/-- the blocks of a journal and its disk -/
def InJ (J D G B : Nat) : Nat → Prop := fun k => k = J ∨ InD D G B k
def jC (D : Nat) (h : Hd) (v : Value) (cl : Bool) : Array Value := #[.pointer (some ⟨D, 0, none⟩), .int .i64 h.seq, .int .i64 h.bank, .int .i64 h.size, .int .i64 h.count, .int .u32 h.sum, v, .bool cl]
/-- a journal in block J over the disk d -/
structure JS (w : World) (J D G B : Nat) (d : Dk) (h : Hd) (recs : List Pg) (cl : Bool) : Prop where
  p : PD w D G B d
  ne : ¬ InD D G B J
  ex : ∃ a cap, w.heap[J]? = some (.cells (jC D h (.slice a recs.length cap) cl) 86 (0, 0)) ∧ RdS w (InJ J D G B) 1 EStr (.slice a recs.length cap) recs
section
variable {J D G B : Nat} {d : Dk} {h : Hd} {recs : List Pg} {cl : Bool}
theorem JS.kept0 {w w' : World} (s : JS w J D G B d h recs cl) (k : Kept NoM w w') : JS w' J D G B d h recs cl := by
  obtain ⟨a, cap, h1, h2⟩ := s.ex
  exact ⟨s.p.kept0 k, s.ne, a, cap, k.blk h1 (fun x => x), h2.kept k.of_no (fun _ _ x => x)⟩
/-- a step of the disk -/
theorem JS.disk {w w' : World} (s : JS w J D G B d h recs cl) {d' : Dk} (hp : PD w' D G B d') (k : Kept (InD D G B) w w') : JS w' J D G B d' h recs cl := by
  obtain ⟨a, cap, h1, h2⟩ := s.ex
  exact ⟨hp, s.ne, a, cap, k.blk h1 s.ne, h2.kept (k.mono fun _ _ x => .inr x) (fun _ _ x => x)⟩
theorem JS.cells {w : World} (s : JS w J D G B d h recs cl) : ∃ a cap, w.cell? ⟨J, 0, none⟩ = some (.pointer (some ⟨D, 0, none⟩)) ∧ w.cell? ⟨J, 1, none⟩ = some (.int .i64 h.seq) ∧ w.cell? ⟨J, 2, none⟩ = some (.int .i64 h.bank) ∧ w.cell? ⟨J, 3, none⟩ = some (.int .i64 h.size) ∧
    w.cell? ⟨J, 4, none⟩ = some (.int .i64 h.count) ∧ w.cell? ⟨J, 5, none⟩ = some (.int .u32 h.sum) ∧ w.cell? ⟨J, 6, none⟩ = some (.slice a recs.length cap) ∧ w.cell? ⟨J, 7, none⟩ = some (.bool cl) ∧ RdS w (InJ J D G B) 1 EStr (.slice a recs.length cap) recs := by
  obtain ⟨a, cap, h1, h2⟩ := s.ex
  exact ⟨a, cap, cell_blk h1 0 _ rfl, cell_blk h1 1 _ rfl, cell_blk h1 2 _ rfl, cell_blk h1 3 _ rfl, cell_blk h1 4 _ rfl, cell_blk h1 5 _ rfl, cell_blk h1 6 _ rfl, cell_blk h1 7 _ rfl, h2⟩
theorem pages_ok (w : World) (p : PD w D G B d) (h2 : 2 ≤ d.n) : Calls Try.prog 61 #[.pointer (some ⟨D, 0, none⟩)] w fun e w' => e = .returned (.int .i64 d.jp) ∧ w = w' := by
  have hn := p.n_hi
  have HP := Lib.hid p
  have q1 : IntKind.i64.wrap ((d.n : Int) - 2) = (d.n : Int) - 2 := IntWalk.i64_in _ (by omega)
  clear p
  go_enter Try.func61, Try.ntmps61
  go_wp2_with (go_at_call 33; refine (len_ok _ HP.out).mono ?_; rintro e w' ⟨rfl, rfl⟩)
  go_ret
  exact ⟨ret_i64 (by unfold Dk.jp; omega), rfl⟩
theorem first_ok (w : World) (p : PD w D G B d) (h2 : 2 ≤ d.n) (bank : Nat) (hb : bank < 256) : Calls Try.prog 53 #[.pointer (some ⟨D, 0, none⟩), .int .i64 bank] w fun e w' => e = .returned (.int .i64 (d.jfirst bank)) ∧ w = w' := by
  have hn := p.n_hi
  have hj : d.jp ≤ 4096 := by unfold Dk.jp; omega
  have HP := Lib.hid p
  have hm : bank * d.jp ≤ 255 * 4096 := Nat.mul_le_mul (by omega) hj
  have q1 : IntKind.i64.wrap ((bank : Int) * d.jp) = ((bank * d.jp : Nat) : Int) := by rw [← Int.natCast_mul]; exact IntWalk.i64_in _ (by omega)
  have q2 : IntKind.i64.wrap (2 + ((bank * d.jp : Nat) : Int)) = ((2 + bank * d.jp : Nat) : Int) := by rw [IntWalk.i64_in _ (by omega)]; omega
  have HE := Lib.hid (show d.jfirst bank = 2 + bank * d.jp from rfl)
  have PG := Lib.hid (pages_ok w p h2)
  generalize d.jp = jp at *
  generalize bank * jp = m at *
  clear p
  go_enter Try.func53, Try.ntmps53
  go_wp2_with (go_at_call 61; refine PG.out.mono ?_; rintro e w' ⟨rfl, rfl⟩)
  go_ret
  exact ⟨ret_i64 (by rw [HE.out]; omega), rfl⟩
theorem jlen_ok (w : World) (s : JS w J D G B d h recs cl) : Calls Try.prog 17 #[.pointer (some ⟨J, 0, none⟩)] w fun e w' => e = .returned (.int .i64 recs.length) ∧ w = w' := by
  obtain ⟨a, cap, c0, c1, c2, c3, c4, c5, c6, c7, hr⟩ := s.cells
  clear s hr
  go_enter Try.func17, Try.ntmps17
  go_wp2_with fail
  go_ret
  exact ⟨rfl, rfl⟩
theorem used_ok (w : World) (s : JS w J D G B d h recs cl) : Calls Try.prog 18 #[.pointer (some ⟨J, 0, none⟩)] w fun e w' => e = .returned (.int .i64 h.size) ∧ w = w' := by
  obtain ⟨a, cap, c0, c1, c2, c3, c4, c5, c6, c7, hr⟩ := s.cells
  clear s hr
  go_enter Try.func18, Try.ntmps18
  go_wp2_with fail
  go_ret
  exact ⟨rfl, rfl⟩
theorem cap_ok (w : World) (s : JS w J D G B d h recs cl) (h2 : 2 ≤ d.n) : Calls Try.prog 42 #[.pointer (some ⟨J, 0, none⟩)] w fun e w' => e = .returned (.int .i64 d.jcap) ∧ w = w' := by
  have hn := s.p.n_hi
  have hj : d.jp ≤ 4096 := by unfold Dk.jp; omega
  obtain ⟨a, cap, c0, c1, c2, c3, c4, c5, c6, c7, hr⟩ := s.cells
  have PG := Lib.hid (pages_ok w s.p h2)
  have HE := Lib.hid (show d.jcap = d.jp * 128 from rfl)
  generalize d.jp = jp at *
  have q1 : IntKind.i64.wrap ((jp : Int) * 128) = ((jp * 128 : Nat) : Int) := by rw [IntWalk.i64_in _ (by omega)]; omega
  clear s hr
  go_enter Try.func42, Try.ntmps42
  go_wp2_with (go_at_call 61; refine PG.out.mono ?_; rintro e w' ⟨rfl, rfl⟩)
  go_ret
  exact ⟨ret_i64 (by rw [HE.out]; omega), rfl⟩
theorem room_ok (w : World) (s : JS w J D G B d h recs cl) (h2 : 2 ≤ d.n) (hs : h.size < 1000000000000) : Calls Try.prog 20 #[.pointer (some ⟨J, 0, none⟩)] w fun e w' => e = .returned (.int .i64 ((d.jcap : Int) - h.size)) ∧ ∃ n, w' = w.drewN n := by
  have hn := s.p.n_hi
  have hj : d.jcap ≤ 1000000 := by unfold Dk.jcap Dk.jp; omega
  have CP : Hid (∀ wx, Kept NoM w wx → Calls Try.prog 42 #[.pointer (some ⟨J, 0, none⟩)] wx fun e w' => e = .returned (.int .i64 d.jcap) ∧ w' = wx) := Lib.hid (fun wx k => (cap_ok wx (s.kept0 k) h2).mono fun e w' ⟨h1, h2⟩ => ⟨h1, h2.symm⟩)
  obtain ⟨a, cap, c0, c1, c2, c3, c4, c5, c6, c7, hr⟩ := s.cells
  have q1 : IntKind.i64.wrap ((d.jcap : Int) - h.size) = (d.jcap : Int) - h.size := IntWalk.i64_in _ (by omega)
  generalize d.jcap = jc at *
  clear s hr
  go_enter Try.func20, Try.ntmps20
  go_wp2_with fail
  go_quiet (first | (go_at_call 42; refine Calls.quiet_of_same (CP.out _ ((Kept.refl NoM w).drewN _))))
  go_wp2_with fail
  go_ret
  exact ⟨rfl, _, rfl⟩
/-- slices.Clone of strings -/
theorem clonestr_ok (v : Value) (xs : List Pg) (M : Nat → Prop) (w : World) (hr : RdS w M 1 EStr v xs) (hl : xs.length ≤ 1000000) : Calls Try.prog 41 #[v] w fun e w' => ∃ a cap O, e = .returned (.slice a xs.length cap) ∧ OwnS w' O 9 1 EStr (.slice a xs.length cap) xs ∧ NewO w none O ∧ Kept NoM w w' := by
  obtain ⟨a, cap, rfl, hc, hm⟩ := hr.shape
  have hln : (xs.length : Nat) = xs.length := rfl
  have hr' : RdS w NoM 1 EStr (.slice a xs.length cap) xs := hr.mono (fun _ _ x => x.elim) (by omega) (fun _ _ x => x)
  cases a with
  | none =>
    obtain ⟨_, hcc, ha⟩ := hr'.addr
    rcases ha with ⟨hx, h0⟩ | ⟨b, off, e⟩
    · subst hx; subst h0
      have hnil := fun wx => Lib.run_eql_slice_nil (P := Try.prog) wx 42 9 none 0 0 0 0 Try.underlying42
      simp only [List.length_nil]
      clear hr hr' hln hc hm hcc
      go_enter Try.func41, Try.ntmps41
      go_wp2_with fail
      go_ret
      exact ⟨none, 0, rfl, none, OwnS.nil _ _ _ _, NewO.refl _ _, Kept.refl _ _⟩
    · cases e
  | some A =>
    have hnil := fun wx => Lib.run_eql_slice_nil (P := Try.prog) wx 42 9 (some A) xs.length cap 0 0 Try.underlying42
    have hk : ∀ o, Kept NoM w (w.alloc o) := fun o => (Kept.refl NoM w).alloc o
    have hs : ∀ o, RdS (w.alloc o) NoM 1 EStr (.slice (some A) xs.length cap) xs := fun o => hr'.kept (hk o) (fun _ _ x => x)
    have ho : OwnS (w.alloc (.cells #[] 9)) (some w.heap.size) 9 1 EStr (.slice (some ⟨w.heap.size, 0, none⟩) 0 0) [] := OwnS.empty (blk_new w _)
    have hb1 : 0 + xs.length ≤ maxLen := by unfold maxLen; omega
    clear hr hr'
    go_enter Try.func41, Try.ntmps41
    go_wp2_with (at_builtin; refine wpList_append_S (M := NoM) rfl (.tmp 5) (.tmp 6) 42 rfl 16 tyStrs _ rfl ho _ rfl (hs _) eStr_one 0 xs.length rfl rfl hb1 (by omega) ?_; rw [Nat.zero_add]; intro a1 cap1 w1 O1 hown1 hk1 hn1)
    go_ret
    have hz : w.heap.size ≤ (w.alloc (.cells #[] 9)).heap.size := by simp
    refine ⟨a1, cap1, rfl, O1, by simpa using hown1, ?_, ((Kept.refl NoM w).alloc _).trans' hk1 (fun i hi h => by simp at h; omega)⟩
    rcases hn1 with h9 | ⟨g2, h9, h10⟩
    · exact .inr ⟨w.heap.size, h9, Nat.le_refl _⟩
    · exact .inr ⟨g2, h9, Nat.le_trans hz h10⟩
theorem records_ok (w : World) (s : JS w J D G B d h recs cl) (hl : recs.length ≤ 1000000) : Calls Try.prog 16 #[.pointer (some ⟨J, 0, none⟩)] w fun e w' => ∃ a cap O, e = .returned (.slice a recs.length cap) ∧ OwnS w' O 9 1 EStr (.slice a recs.length cap) recs ∧ NewO w none O ∧ Kept NoM w w' := by
  obtain ⟨a, cap, c0, c1, c2, c3, c4, c5, c6, c7, hr⟩ := s.cells
  have HR := Lib.hid (clonestr_ok _ recs _ w hr hl)
  clear s hr
  go_enter Try.func16, Try.ntmps16
  go_wp2_with (go_at_call 41; refine HR.out.mono ?_; rintro e w1 ⟨a1, cap1, O1, rfl, h1, h2, h3⟩)
  go_ret
  exact ⟨a1, cap1, O1, rfl, h1, h2, h3⟩
theorem record_ok (w : World) (s : JS w J D G B d h recs cl) (k : Nat) (x : Pg) (hk : recs[k]? = some x) : Calls Try.prog 21 #[.pointer (some ⟨J, 0, none⟩), .int .i64 k] w fun e w' => e = .returned (.tuple #[strV x, .bool true]) ∧ w = w' := by
  obtain ⟨a, cap, c0, c1, c2, c3, c4, c5, c6, c7, hr⟩ := s.cells
  obtain ⟨b, off, rfl, _, cs, rfl, _, hc⟩ := hr.at hk
  have x0 := hc 0 _ rfl
  simp only [Nat.mul_one, Nat.add_zero] at x0
  have hl := (List.getElem?_eq_some_iff.1 hk).1
  have hli : (k : Int) < recs.length := by omega
  unfold strV at x0 ⊢
  clear s hr hc hk
  go_enter Try.func21, Try.ntmps21
  go_wp2_with fail
  go_ret2
  exact ⟨rfl, rfl⟩
theorem record_no (w : World) (s : JS w J D G B d h recs cl) (k : Int) (hk : k < 0 ∨ (recs.length : Int) ≤ k) : Calls Try.prog 21 #[.pointer (some ⟨J, 0, none⟩), .int .i64 k] w fun e w' => e = .returned (.tuple #[strV [], .bool false]) ∧ w = w' := by
  obtain ⟨a, cap, c0, c1, c2, c3, c4, c5, c6, c7, hr⟩ := s.cells
  clear s hr
  by_cases h0 : k < 0
  · clear hk
    go_enter Try.func21, Try.ntmps21
    go_wp2_with fail
    go_ret2
    exact ⟨rfl, rfl⟩
  · have h1 : (recs.length : Int) ≤ k := by omega
    clear hk
    go_enter Try.func21, Try.ntmps21
    go_wp2_with fail
    go_ret2
    exact ⟨rfl, rfl⟩
end
end Go.Proofs.Ytjcmnobfdidnkaa
