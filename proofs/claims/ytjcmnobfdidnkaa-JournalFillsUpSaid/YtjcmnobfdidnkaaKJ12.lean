/- Walks: Append. -/
import Derived.Test.YtjcmnobfdidnkaaKJ11
import Derived.Test.YtjcmnobfdidnkaaKRP
import Derived.Deep.CutRange
set_option linter.unusedVariables false
set_option linter.unusedSimpArgs false
set_option linter.unusedSectionVars false
namespace Go.Proofs.Ytjcmnobfdidnkaa
open Go.RowKit
set_option maxHeartbeats 4000000
set_option maxRecDepth 4000
/-- a slice of one text -/
theorem one_str {w : World} {b : Nat} {x : Pg} {M : Nat → Prop} (hb : w.heap[b]? = some (.cells #[.string ⟨x.toArray⟩] 9 (0, 0))) (hM : ¬ M b := by exact fun x => x) : RdS w M 1 EStr (.slice (some ⟨b, 0, none⟩) 1 1) [x] := by
  refine ⟨_, 1, rfl, Nat.le_refl _, by decide, .inr ⟨b, 0, rfl, fun i y hy => ⟨hM, ?_⟩⟩⟩
  match i with
  | 0 =>
    cases hy
    refine ⟨_, rfl, rfl, fun j u hu => ?_⟩
    match j with
    | 0 =>
      cases hu
      exact cell_blk hb 0 _ rfl
    | j + 1 => simp at hu
  | i + 1 => simp at hy
section
variable {J D G B : Nat} {d : Dk} {h : Hd} {recs : List Pg} {cl : Bool}
theorem JS.lt {w : World} (s : JS w J D G B d h recs cl) (i : Nat) (hi : InJ J D G B i) : i < w.heap.size := by
  rcases hi with rfl | hi
  · obtain ⟨_, _, h1, _⟩ := s.ex
    exact lt_of_block h1
  · have := s.p.lt
    unfold InD at hi
    omega
theorem append_closed (x : Pg) (w : World) (js : JS w J D G B d h recs cl) (hcl : cl = true) :
    Calls Try.prog 24 #[.pointer (some ⟨J, 0, none⟩), .string ⟨x.toArray⟩] w fun e w' => e = .returned (.tuple #[.int .i64 0, .int .i64 13]) ∧ Kept NoM w w' := by
  subst hcl
  obtain ⟨a0, cap0, c0, c1, c2, c3, c4, c5, c6, c7, hr⟩ := js.cells
  clear js hr
  go_enter Try.func24, Try.ntmps24
  go_wp2_with fail
  go_ret2
  exact ⟨rfl, Kept.refl _ _⟩
theorem append_long (x : Pg) (w : World) (js : JS w J D G B d h recs cl) (hcl : cl = false) (hx : 8000 < x.length) :
    Calls Try.prog 24 #[.pointer (some ⟨J, 0, none⟩), .string ⟨x.toArray⟩] w fun e w' => e = .returned (.tuple #[.int .i64 0, .int .i64 2]) ∧ Kept NoM w w' := by
  subst hcl
  obtain ⟨a0, cap0, c0, c1, c2, c3, c4, c5, c6, c7, hr⟩ := js.cells
  have hz : (⟨x.toArray⟩ : ByteArray).size = x.length := by simp [ByteArray.size]
  have hx2 : ((x.length : Nat) : Int) > 8000 := by omega
  clear js hr
  go_enter Try.func24, Try.ntmps24
  go_wp2_with fail
  go_ret2
  exact ⟨rfl, Kept.refl _ _⟩
theorem append_full (x : Pg) (h2 : 2 ≤ d.n) (hsz : h.size < 1000000000000) (w : World) (js : JS w J D G B d h recs cl) (hcl : cl = false) (hx : x.length ≤ 8000) (hfull : d.jcap < h.size + (x.length + 2)) :
    Calls Try.prog 24 #[.pointer (some ⟨J, 0, none⟩), .string ⟨x.toArray⟩] w fun e w' => e = .returned (.tuple #[.int .i64 0, .int .i64 12]) ∧ Kept NoM w w' := by
  have RM := Lib.hid (room_ok w js h2 hsz)
  generalize d.jcap = jc at *
  subst hcl
  obtain ⟨a0, cap0, c0, c1, c2, c3, c4, c5, c6, c7, hr⟩ := js.cells
  have hz : (⟨x.toArray⟩ : ByteArray).size = x.length := by simp [ByteArray.size]
  have hx2 : ¬ ((x.length : Nat) : Int) > 8000 := by omega
  have q1 : IntKind.i64.wrap (2 + ((x.length : Nat) : Int)) = 2 + ((x.length : Nat) : Int) := IntWalk.i64_in _ (by omega)
  have hx3 : 2 + ((x.length : Nat) : Int) > (jc : Int) - h.size := by omega
  clear js hr
  go_enter Try.func24, Try.ntmps24
  go_wp2_with (go_at_call 20; refine RM.out.mono ?_; rintro e w1 ⟨rfl, n1, rfl⟩)
  go_ret2
  exact ⟨rfl, (Kept.refl _ _).drewN _⟩
theorem append_go (x : Pg) (h2 : 2 ≤ d.n) (hsum : h.sum < 4294967296) (hrl : recs.length < 1000000) (hok : (appHd h x).Ok) (w : World) (js : JS w J D G B d h recs cl) (hcl : cl = false) (hx : x.length ≤ 8000) (hfull : h.size + (x.length + 2) ≤ d.jcap) :
    Calls Try.prog 24 #[.pointer (some ⟨J, 0, none⟩), .string ⟨x.toArray⟩] w fun e w' => e = .returned (.tuple #[.int .i64 (if jkeepF d h (appHd h x) h.size (recB x) then 0 else recs.length), .int .i64 (if jkeepF d h (appHd h x) h.size (recB x) then 13 else 0)]) ∧
      JS w' J D G B (jkeepD d h (appHd h x) h.size (recB x)) (if jkeepF d h (appHd h x) h.size (recB x) then h else appHd h x) (if jkeepF d h (appHd h x) h.size (recB x) then recs else recs ++ [x]) (if jkeepF d h (appHd h x) h.size (recB x) then true else false) ∧ Kept (InJ J D G B) w w' ∧ (jkeepF d h (appHd h x) h.size (recB x) = false → (∃ a8 cap8, w'.cell? ⟨J, 6, none⟩ = some (.slice a8 (recs.length + 1) cap8) ∧ ∀ b off, a8 = some ⟨b, off, none⟩ → w.heap.size ≤ b)) := by
  have hsz : h.size < 1000000000000 := by have := hok.size; unfold appHd at this; simp only at this; omega
  have RM := Lib.hid (room_ok w js h2 hsz)
  have HJC := Lib.hid (show h.size + (x.length + 2) ≤ 1000000 by have := js.p.n_hi; unfold Dk.jcap Dk.jp at hfull; omega)
  generalize hjc : d.jcap = jc at *
  subst hcl
  have HINJ : Hid (∀ wx, Kept NoM w wx → ∀ i, InJ J D G B i → i < wx.heap.size) := Lib.hid (fun wx k i hi => Nat.lt_of_lt_of_le (js.lt i hi) k.size)
  obtain ⟨a0, cap0, c0, c1, c2, c3, c4, c5, c6, c7, hr⟩ := js.cells
  have hz : (⟨x.toArray⟩ : ByteArray).size = x.length := by simp [ByteArray.size]
  have hx2 : ¬ ((x.length : Nat) : Int) > 8000 := by omega
  have q1 : IntKind.i64.wrap (2 + ((x.length : Nat) : Int)) = 2 + ((x.length : Nat) : Int) := IntWalk.i64_in _ (by omega)
  have hx3 : ¬ 2 + ((x.length : Nat) : Int) > (jc : Int) - h.size := by omega
  have HS := Lib.hid js
  clear js hr hjc
  suffices hQ : ∀ Q : Ending → World → Prop, (∀ w', jkeepF d h (appHd h x) h.size (recB x) = false → JS w' J D G B (jkeepD d h (appHd h x) h.size (recB x)) (appHd h x) (recs ++ [x]) false → Kept (InJ J D G B) w w' → (∃ a8 cap8, w'.cell? ⟨J, 6, none⟩ = some (.slice a8 (recs.length + 1) cap8) ∧ ∀ b off, a8 = some ⟨b, off, none⟩ → w.heap.size ≤ b) → Q (.returned (.tuple #[.int .i64 recs.length, .int .i64 0])) w') →
      (∀ w', jkeepF d h (appHd h x) h.size (recB x) = true → JS w' J D G B (jkeepD d h (appHd h x) h.size (recB x)) h recs true → Kept (InJ J D G B) w w' → Q (.returned (.tuple #[.int .i64 0, .int .i64 13])) w') →
      Calls Try.prog 24 #[.pointer (some ⟨J, 0, none⟩), .string ⟨x.toArray⟩] w fun e w' => Q e w' ∧ True by
    refine (hQ _ (fun w' hf q1 q2 q3 => ?_) (fun w' hf q1 q2 => ?_)).mono (fun _ _ h => h.1) <;> rw [hf]
    · exact ⟨rfl, q1, q2, fun _ => q3⟩
    · exact ⟨rfl, q1, q2, fun e => by cases e⟩
  intro Q qn qy
  have QN := Lib.hid qn
  have QY := Lib.hid qy
  clear qn qy
  go_enter Try.func24, Try.ntmps24
  go_wp2_with (go_at_call 20; refine RM.out.mono ?_; rintro e w1 ⟨rfl, n1, rfl⟩)
  have hK1 : Kept NoM w (w.drewN n1) := (Kept.refl _ _).drewN _
  obtain ⟨w1, hw1⟩ : ∃ w1, w.drewN n1 = w1 := ⟨_, rfl⟩
  rw [hw1] at hK1 ⊢
  clear hw1 RM q1 hx2 hx3
  have HK1 := Lib.hid hK1
  have SC : Hid (∀ w', Kept NoM w w' → w'.cell? ⟨J, 0, none⟩ = some (.pointer (some ⟨D, 0, none⟩)) ∧ w'.cell? ⟨J, 1, none⟩ = some (.int .i64 h.seq) ∧ w'.cell? ⟨J, 2, none⟩ = some (.int .i64 h.bank) ∧ w'.cell? ⟨J, 3, none⟩ = some (.int .i64 h.size) ∧ w'.cell? ⟨J, 4, none⟩ = some (.int .i64 h.count) ∧ w'.cell? ⟨J, 5, none⟩ = some (.int .u32 h.sum)) :=
    Lib.hid (fun w' k => ⟨k.cell c0 (fun x => x), k.cell c1 (fun x => x), k.cell c2 (fun x => x), k.cell c3 (fun x => x), k.cell c4 (fun x => x), k.cell c5 (fun x => x)⟩)
  have SD : Hid (∀ w', Kept NoM w w' → w'.cell? ⟨J, 1, none⟩ = some (.int .i64 h.seq) ∧ w'.cell? ⟨J, 2, none⟩ = some (.int .i64 h.bank) ∧ w'.cell? ⟨J, 3, none⟩ = some (.int .i64 h.size) ∧ w'.cell? ⟨J, 4, none⟩ = some (.int .i64 h.count) ∧ w'.cell? ⟨J, 5, none⟩ = some (.int .u32 h.sum)) := Lib.hid (fun w' k => (SC.out w' k).2)
  have ST : Hid (∀ wx b, Kept NoM w wx → wx.heap[b]? = some (.cells #[.string ⟨x.toArray⟩] 9 (0, 0)) → Calls Try.prog 43 #[.slice (some ⟨b, 0, none⟩) 1 1] wx fun e w' => e = .returned (.string ⟨(recB x).toArray⟩) ∧ Hid (Kept NoM wx w') ∧ Hid (Kept NoM w w')) := by
    intro wx b kx hb
    have hr1 : RdS wx NoM 1 EStr (.slice (some ⟨b, 0, none⟩) 1 1) [x] := one_str hb
    have e1 : streamS [x] = recB x := by simp [streamS]
    have hlen : (recB x).length = x.length + 2 := rfl
    refine (stream_ok _ [x] wx hr1 (by simp) (by rw [e1, hlen]; omega)).mono ?_
    rintro e w' ⟨rfl, k⟩
    rw [e1]
    exact ⟨rfl, Lib.hid k, Lib.hid (kx.trans k)⟩
  clear c0 c1 c2 c3 c4 c5 c6 c7 hK1
  go_cut [6, 7] from 26 to 32 (fun s6 s7 wx => ∃ g, s6 = .string ⟨(recB x).toArray⟩ ∧ s7 = .pointer (some ⟨g, 0, none⟩) ∧ w.heap.size ≤ g ∧ wx.heap[g]? = some (.cells #[.int .i64 h.seq, .int .i64 h.bank, .int .i64 h.size, .int .i64 h.count, .int .u32 h.sum] 78 (0, 0)) ∧ Kept NoM w wx)
  case first =>
    obtain ⟨c0, c1, c2, c3, c4, c5⟩ := SC.out w1 HK1.out
    refine wp_region_par 9 [] [] [] [] [] (fun wx => Kept NoM w wx)
          [fun v _ => v = .string ⟨x.toArray⟩, fun v wx => ∃ b, (v = .slice (some ⟨b, 0, none⟩) 1 1) ∧ wx.heap[b]? = some (.cells #[.string ⟨x.toArray⟩] 9 (0, 0)), fun v _ => v = .string ⟨(recB x).toArray⟩, fun v _ => v = .pointer (some ⟨J, 0, none⟩), fun v _ => v = .pointer (some ⟨J, 0, none⟩), fun v _ => v = .pointer (some ⟨J, 1, none⟩), fun v _ => v = .agg #[.int .i64 h.seq, .int .i64 h.bank, .int .i64 h.size, .int .i64 h.count, .int .u32 h.sum], fun v wx => ∃ g, (v = .pointer (some ⟨g, 0, none⟩) ∧ w.heap.size ≤ g) ∧ wx.heap[g]? = some (.cells #[.int .i64 0, .int .i64 0, .int .i64 0, .int .i64 0, .int .u32 0] 78 (0, 0)), fun v _ => v = .string ⟨(recB x).toArray⟩] (by kernel_rfl) (by kernel_rfl) (by kernel_rfl) HK1.out.drew (inits_nil) ?_ ?_
    · intro i hi9
      have hst := stab_all (posts := [fun v _ => v = .string ⟨x.toArray⟩, fun v wx => ∃ b, (v = .slice (some ⟨b, 0, none⟩) 1 1) ∧ wx.heap[b]? = some (.cells #[.string ⟨x.toArray⟩] 9 (0, 0)), fun v _ => v = .string ⟨(recB x).toArray⟩, fun v _ => v = .pointer (some ⟨J, 0, none⟩), fun v _ => v = .pointer (some ⟨J, 0, none⟩), fun v _ => v = .pointer (some ⟨J, 1, none⟩), fun v _ => v = .agg #[.int .i64 h.seq, .int .i64 h.bank, .int .i64 h.size, .int .i64 h.count, .int .u32 h.sum], fun v wx => ∃ g, (v = .pointer (some ⟨g, 0, none⟩) ∧ w.heap.size ≤ g) ∧ wx.heap[g]? = some (.cells #[.int .i64 0, .int .i64 0, .int .i64 0, .int .i64 0, .int .u32 0] 78 (0, 0)), fun v _ => v = .string ⟨(recB x).toArray⟩])        (stab_cons (stab_const _) (stab_cons (stab_blk (fun b v => v = .slice (some ⟨b, 0, none⟩) 1 1) (fun b => b) (fun b => .cells #[.string ⟨x.toArray⟩] 9 (0, 0))) (stab_cons (stab_const _) (stab_cons (stab_const _) (stab_cons (stab_const _) (stab_cons (stab_const _) (stab_cons (stab_const _) (stab_cons (stab_blk (fun g v => v = .pointer (some ⟨g, 0, none⟩) ∧ w.heap.size ≤ g) (fun g => g) (fun g => .cells #[.int .i64 0, .int .i64 0, .int .i64 0, .int .i64 0, .int .u32 0] 78 (0, 0))) (stab_cons (stab_const _) stab_nil)))))))))
      have hist := init_stab (inits := []) (fun p h => by cases h)
      have HST := Lib.hid hst
      have HIST := Lib.hid hist
      clear hst hist
      rcases (show i = 0 ∨ i = 1 ∨ i = 2 ∨ i = 3 ∨ i = 4 ∨ i = 5 ∨ i = 6 ∨ i = 7 ∨ i = 8 by omega) with rfl | rfl | rfl | rfl | rfl | rfl | rfl | rfl | rfl
      · refine asks_intro ?_; intro o ho a wx hc hout hp hi R hR; cases ho
        have e1 : a.tmps[1]? = some (.string ⟨x.toArray⟩) := hout 1 rfl
        go_simp
        exact hR _ _ hc rfl (fun _ _ _ _ _ u h => h) (fun _ _ h => h)
      · refine asks_intro ?_; intro o ho a wx hc hout hp hi R hR; cases ho
        have e26 : a.tmps[26]?.getD undef = .string ⟨x.toArray⟩ := hp 0 (by omega) rfl
        go_simp
        exact hR _ _ (hc.alloc _) ⟨_, rfl, blk_new _ _⟩ (fun j _ _ _ _ u h => HST.out j u _ _ ((Kept.refl _ _).alloc _) h) (fun j _ h => HIST.out j _ _ ((Kept.refl _ _).alloc _) h)
      · refine asks_intro ?_; intro o ho a wx hc hout hp hi R hR; cases ho
        obtain ⟨b, e27, hb27⟩ : ∃ b, (a.tmps[27]?.getD undef = .slice (some ⟨b, 0, none⟩) 1 1) ∧ wx.heap[b]? = some (.cells #[.string ⟨x.toArray⟩] 9 (0, 0)) := hp 1 (by omega) rfl
        go_simp
        refine (ST.out wx b hc hb27).mono ?_
        rintro e w2 ⟨rfl, k1, k2⟩
        exact ⟨_, rfl, hR _ _ k2.out rfl (fun j _ _ _ _ u h => HST.out j u _ _ k1.out h) (fun j _ h => HIST.out j _ _ k1.out h)⟩
      · refine asks_intro ?_; intro o ho a wx hc hout hp hi R hR; cases ho
        have e0 : a.tmps[0]? = some (.pointer (some ⟨J, 0, none⟩)) := hout 0 rfl
        go_simp
        exact hR _ _ hc rfl (fun _ _ _ _ _ u h => h) (fun _ _ h => h)
      · refine asks_intro ?_; intro o ho a wx hc hout hp hi R hR; cases ho
        have e29 : a.tmps[29]?.getD undef = .pointer (some ⟨J, 0, none⟩) := hp 3 (by omega) rfl
        go_simp
        exact hR _ _ hc rfl (fun _ _ _ _ _ u h => h) (fun _ _ h => h)
      · refine asks_intro ?_; intro o ho a wx hc hout hp hi R hR; cases ho
        have e30 : a.tmps[30]?.getD undef = .pointer (some ⟨J, 0, none⟩) := hp 4 (by omega) rfl
        go_simp
        exact hR _ _ hc rfl (fun _ _ _ _ _ u h => h) (fun _ _ h => h)
      · refine asks_intro ?_; intro o ho a wx hc hout hp hi R hR; cases ho
        have e31 : a.tmps[31]?.getD undef = .pointer (some ⟨J, 1, none⟩) := hp 5 (by omega) rfl
        obtain ⟨c0, c1, c2, c3, c4, c5⟩ := SC.out wx hc
        go_simp
        exact hR _ _ hc rfl (fun _ _ _ _ _ u h => h) (fun _ _ h => h)
      · refine asks_intro ?_; intro o ho a wx hc hout hp hi R hR; cases ho
        go_simp
        exact hR _ _ (hc.alloc _) ⟨_, ⟨rfl, hc.size⟩, blk_new _ _⟩ (fun j _ _ _ _ u h => HST.out j u _ _ ((Kept.refl _ _).alloc _) h) (fun j _ h => HIST.out j _ _ ((Kept.refl _ _).alloc _) h)
      · refine asks_intro ?_; intro o ho a wx hc hout hp hi R hR; cases ho
        have e28 : a.tmps[28]?.getD undef = .string ⟨(recB x).toArray⟩ := hp 2 (by omega) rfl
        go_simp
        exact hR _ _ hc rfl (fun _ _ _ _ _ u h => h) (fun _ _ h => h)
    · intro vs w' hc hp
      have e26 : vs 0 = .string ⟨x.toArray⟩ := hp 0 (by omega) rfl
      obtain ⟨b, e27, hb27⟩ : ∃ b, (vs 1 = .slice (some ⟨b, 0, none⟩) 1 1) ∧ w'.heap[b]? = some (.cells #[.string ⟨x.toArray⟩] 9 (0, 0)) := hp 1 (by omega) rfl
      have e28 : vs 2 = .string ⟨(recB x).toArray⟩ := hp 2 (by omega) rfl
      have e29 : vs 3 = .pointer (some ⟨J, 0, none⟩) := hp 3 (by omega) rfl
      have e30 : vs 4 = .pointer (some ⟨J, 0, none⟩) := hp 4 (by omega) rfl
      have e31 : vs 5 = .pointer (some ⟨J, 1, none⟩) := hp 5 (by omega) rfl
      have e32 : vs 6 = .agg #[.int .i64 h.seq, .int .i64 h.bank, .int .i64 h.size, .int .i64 h.count, .int .u32 h.sum] := hp 6 (by omega) rfl
      obtain ⟨g, e7, hb7⟩ : ∃ g, (vs 7 = .pointer (some ⟨g, 0, none⟩) ∧ w.heap.size ≤ g) ∧ w'.heap[g]? = some (.cells #[.int .i64 0, .int .i64 0, .int .i64 0, .int .i64 0, .int .u32 0] 78 (0, 0)) := hp 7 (by omega) rfl
      have e6 : vs 8 = .string ⟨(recB x).toArray⟩ := hp 8 (by omega) rfl
      simp only [List.take_succ_cons, List.take_zero, List.drop_succ_cons, List.drop_zero, putAll, Act.put, List.setIfInBounds_toArray, List.set_cons_zero, List.set_cons_succ, Nat.reduceAdd, e26, e28, e29, e30, e31, e32, e6]
      obtain ⟨e7, hg7⟩ := e7
      rw [e7]
      change wpList _ _ _ _ _ _
      obtain ⟨wb, ewb, kb, lb⟩ : ∃ wb, w' = putB wb g #[.int .i64 0, .int .i64 0, .int .i64 0, .int .i64 0, .int .u32 0] 78 ∧ Kept NoM w wb ∧ g < wb.heap.size := ⟨w', putB_self hb7, hc, lt_of_block hb7⟩
      have HG := Lib.hid (And.intro hg7 (And.intro kb lb))
      rw [ewb]
      clear ewb hc hb7 hp hb27 kb hg7
      go_wp2_with fail
      go_meet
      case rel => exact ⟨g, rfl, rfl, HG.out.1, putB_blk _ _ _ _ HG.out.2.2, HG.out.2.1.putN HG.out.1 _ _⟩
  case rest =>
    obtain ⟨g, rfl, rfl, hg, hgb, hk⟩ := hcut
    have c9 := cell_blk hgb 2 _ rfl
    go_wp2_with fail
    have hz2 : (⟨(recB x).toArray⟩ : ByteArray).size = x.length + 2 := by simp [ByteArray.size, recB]
    have hlen : (recB x).length = x.length + 2 := rfl
    obtain ⟨ok1, ok2, ok3, ok4, ok5⟩ := hok
    simp only [appHd] at ok1 ok2 ok3 ok4 ok5
    have HB1 := Lib.hid (show h.size + (recB x).length ≤ 1000000 by rw [hlen]; have := HJC.out; omega)
    have HB2 := Lib.hid (show (appHd h x).bank < 256 from ok2)
    have HB3 : Hid (appHd h x).Ok := Lib.hid ⟨ok1, ok2, ok3, ok4, ok5⟩
    have HHN : Hid (hdV (appHd h x) = .agg #[.int .i64 ((h.seq : Int) + 1), .int .i64 h.bank, .int .i64 ((h.size : Int) + ((x.length : Int) + 2)), .int .i64 ((h.count : Int) + 1), .int .u32 (crc h.sum (recB x))]) := Lib.hid (by unfold hdV appHd; simp)
    have HLN : Hid ((recs ++ [x]).length = recs.length + 1) := Lib.hid (by simp)
    have q9 : IntKind.i64.wrap (((recs.length + 1 : Nat) : Int) - 1) = recs.length := by rw [IntWalk.i64_in _ (by omega)]; omega
    clear c9
    refine wp_region_par 23 [(18, 16), (20, 18), (22, 20)] [(16, 18), (16, 20), (16, 22), (18, 20), (18, 22), (20, 22)] [(1, 0), (4, 0), (9, 0), (12, 0), (16, 0)] [(0, 16), (0, 18), (0, 20), (0, 22)] [fun wx => wx.heap[g]? = some (.cells #[.int .i64 h.seq, .int .i64 h.bank, .int .i64 h.size, .int .i64 h.count, .int .u32 h.sum] 78 (0, 0))] (fun wx => Kept NoM w wx)
          [fun v _ => v = .pointer (some ⟨g, 0, none⟩), fun v _ => v = .int .i64 h.seq, fun v _ => v = .int .i64 ((h.seq : Int) + 1), fun v _ => v = .pointer (some ⟨g, 2, none⟩), fun v _ => v = .int .i64 h.size, fun v _ => v = .string ⟨(recB x).toArray⟩, fun v _ => v = .int .i64 ((x.length : Int) + 2), fun v _ => v = .int .i64 ((h.size : Int) + ((x.length : Int) + 2)), fun v _ => v = .pointer (some ⟨g, 3, none⟩), fun v _ => v = .int .i64 h.count, fun v _ => v = .int .i64 ((h.count : Int) + 1), fun v _ => v = .pointer (some ⟨g, 4, none⟩), fun v _ => v = .int .u32 h.sum, fun v _ => v = .string ⟨(recB x).toArray⟩, fun v _ => v = .int .u32 (crc h.sum (recB x)), fun v _ => v = .pointer (some ⟨g, 0, none⟩), fun _ wx => wx.heap[g]? = some (.cells #[.int .i64 ((h.seq : Int) + 1), .int .i64 h.bank, .int .i64 h.size, .int .i64 h.count, .int .u32 h.sum] 78 (0, 0)), fun v _ => v = .pointer (some ⟨g, 2, none⟩), fun _ wx => wx.heap[g]? = some (.cells #[.int .i64 ((h.seq : Int) + 1), .int .i64 h.bank, .int .i64 ((h.size : Int) + ((x.length : Int) + 2)), .int .i64 h.count, .int .u32 h.sum] 78 (0, 0)), fun v _ => v = .pointer (some ⟨g, 3, none⟩), fun _ wx => wx.heap[g]? = some (.cells #[.int .i64 ((h.seq : Int) + 1), .int .i64 h.bank, .int .i64 ((h.size : Int) + ((x.length : Int) + 2)), .int .i64 ((h.count : Int) + 1), .int .u32 h.sum] 78 (0, 0)), fun v _ => v = .pointer (some ⟨g, 4, none⟩), fun _ wx => wx.heap[g]? = some (.cells #[.int .i64 ((h.seq : Int) + 1), .int .i64 h.bank, .int .i64 ((h.size : Int) + ((x.length : Int) + 2)), .int .i64 ((h.count : Int) + 1), .int .u32 (crc h.sum (recB x))] 78 (0, 0))] (by kernel_rfl) (by kernel_rfl) (by kernel_rfl) hk.drew (inits_one hgb) ?_ ?_
    · intro i hi9
      have hst := stab_all (posts := [fun v _ => v = .pointer (some ⟨g, 0, none⟩), fun v _ => v = .int .i64 h.seq, fun v _ => v = .int .i64 ((h.seq : Int) + 1), fun v _ => v = .pointer (some ⟨g, 2, none⟩), fun v _ => v = .int .i64 h.size, fun v _ => v = .string ⟨(recB x).toArray⟩, fun v _ => v = .int .i64 ((x.length : Int) + 2), fun v _ => v = .int .i64 ((h.size : Int) + ((x.length : Int) + 2)), fun v _ => v = .pointer (some ⟨g, 3, none⟩), fun v _ => v = .int .i64 h.count, fun v _ => v = .int .i64 ((h.count : Int) + 1), fun v _ => v = .pointer (some ⟨g, 4, none⟩), fun v _ => v = .int .u32 h.sum, fun v _ => v = .string ⟨(recB x).toArray⟩, fun v _ => v = .int .u32 (crc h.sum (recB x)), fun v _ => v = .pointer (some ⟨g, 0, none⟩), fun _ wx => wx.heap[g]? = some (.cells #[.int .i64 ((h.seq : Int) + 1), .int .i64 h.bank, .int .i64 h.size, .int .i64 h.count, .int .u32 h.sum] 78 (0, 0)), fun v _ => v = .pointer (some ⟨g, 2, none⟩), fun _ wx => wx.heap[g]? = some (.cells #[.int .i64 ((h.seq : Int) + 1), .int .i64 h.bank, .int .i64 ((h.size : Int) + ((x.length : Int) + 2)), .int .i64 h.count, .int .u32 h.sum] 78 (0, 0)), fun v _ => v = .pointer (some ⟨g, 3, none⟩), fun _ wx => wx.heap[g]? = some (.cells #[.int .i64 ((h.seq : Int) + 1), .int .i64 h.bank, .int .i64 ((h.size : Int) + ((x.length : Int) + 2)), .int .i64 ((h.count : Int) + 1), .int .u32 h.sum] 78 (0, 0)), fun v _ => v = .pointer (some ⟨g, 4, none⟩), fun _ wx => wx.heap[g]? = some (.cells #[.int .i64 ((h.seq : Int) + 1), .int .i64 h.bank, .int .i64 ((h.size : Int) + ((x.length : Int) + 2)), .int .i64 ((h.count : Int) + 1), .int .u32 (crc h.sum (recB x))] 78 (0, 0))])        (stab_cons (stab_const _) (stab_cons (stab_const _) (stab_cons (stab_const _) (stab_cons (stab_const _) (stab_cons (stab_const _) (stab_cons (stab_const _) (stab_cons (stab_const _) (stab_cons (stab_const _) (stab_cons (stab_const _) (stab_cons (stab_const _) (stab_cons (stab_const _) (stab_cons (stab_const _) (stab_cons (stab_const _) (stab_cons (stab_const _) (stab_cons (stab_const _) (stab_cons (stab_const _) (stab_cons (fun _ _ _ k h => k.blk h (fun x => x)) (stab_cons (stab_const _) (stab_cons (fun _ _ _ k h => k.blk h (fun x => x)) (stab_cons (stab_const _) (stab_cons (fun _ _ _ k h => k.blk h (fun x => x)) (stab_cons (stab_const _) (stab_cons (fun _ _ _ k h => k.blk h (fun x => x)) stab_nil)))))))))))))))))))))))
      have hist := init_stab (inits := [fun wx => wx.heap[g]? = some (.cells #[.int .i64 h.seq, .int .i64 h.bank, .int .i64 h.size, .int .i64 h.count, .int .u32 h.sum] 78 (0, 0))]) (fun p h => by rcases List.mem_cons.1 h with rfl | h; exact fun w w' k hp => k.blk hp (fun x => x); cases h)
      have HST := Lib.hid hst
      have HIST := Lib.hid hist
      clear hst hist
      rcases (show i = 0 ∨ i = 1 ∨ i = 2 ∨ i = 3 ∨ i = 4 ∨ i = 5 ∨ i = 6 ∨ i = 7 ∨ i = 8 ∨ i = 9 ∨ i = 10 ∨ i = 11 ∨ i = 12 ∨ i = 13 ∨ i = 14 ∨ i = 15 ∨ i = 16 ∨ i = 17 ∨ i = 18 ∨ i = 19 ∨ i = 20 ∨ i = 21 ∨ i = 22 by omega) with rfl | rfl | rfl | rfl | rfl | rfl | rfl | rfl | rfl | rfl | rfl | rfl | rfl | rfl | rfl | rfl | rfl | rfl | rfl | rfl | rfl | rfl | rfl
      · refine asks_intro ?_; intro o ho a wx hc hout hp hi R hR; cases ho
        have e7 : a.tmps[7]? = some (.pointer (some ⟨g, 0, none⟩)) := hout 7 rfl
        go_simp
        exact hR _ _ hc rfl (fun _ _ _ _ _ u h => h) (fun _ _ h => h)
      · refine asks_intro ?_; intro o ho a wx hc hout hp hi R hR; cases ho
        have e35 : a.tmps[35]?.getD undef = .pointer (some ⟨g, 0, none⟩) := hp 0 (by omega) rfl
        have hbi : wx.heap[g]? = some (.cells #[.int .i64 h.seq, .int .i64 h.bank, .int .i64 h.size, .int .i64 h.count, .int .u32 h.sum] 78 (0, 0)) := hi 0 rfl
        have y1 := cell_blk hbi 0 _ rfl
        go_simp
        exact hR _ _ hc rfl (fun _ _ _ _ _ u h => h) (fun _ _ h => h)
      · refine asks_intro ?_; intro o ho a wx hc hout hp hi R hR; cases ho
        have e36 : a.tmps[36]?.getD undef = .int .i64 h.seq := hp 1 (by omega) rfl
        have q := IntWalk.i64_in ((h.seq : Int) + 1) (by omega)
        go_simp
        exact hR _ _ hc rfl (fun _ _ _ _ _ u h => h) (fun _ _ h => h)
      · refine asks_intro ?_; intro o ho a wx hc hout hp hi R hR; cases ho
        have e7 : a.tmps[7]? = some (.pointer (some ⟨g, 0, none⟩)) := hout 7 rfl
        go_simp
        exact hR _ _ hc rfl (fun _ _ _ _ _ u h => h) (fun _ _ h => h)
      · refine asks_intro ?_; intro o ho a wx hc hout hp hi R hR; cases ho
        have e38 : a.tmps[38]?.getD undef = .pointer (some ⟨g, 2, none⟩) := hp 3 (by omega) rfl
        have hbi : wx.heap[g]? = some (.cells #[.int .i64 h.seq, .int .i64 h.bank, .int .i64 h.size, .int .i64 h.count, .int .u32 h.sum] 78 (0, 0)) := hi 0 rfl
        have y1 := cell_blk hbi 2 _ rfl
        go_simp
        exact hR _ _ hc rfl (fun _ _ _ _ _ u h => h) (fun _ _ h => h)
      · refine asks_intro ?_; intro o ho a wx hc hout hp hi R hR; cases ho
        have e6 : a.tmps[6]? = some (.string ⟨(recB x).toArray⟩) := hout 6 rfl
        go_simp
        exact hR _ _ hc rfl (fun _ _ _ _ _ u h => h) (fun _ _ h => h)
      · refine asks_intro ?_; intro o ho a wx hc hout hp hi R hR; cases ho
        have e40 : a.tmps[40]?.getD undef = .string ⟨(recB x).toArray⟩ := hp 5 (by omega) rfl
        go_simp
        exact hR _ _ hc rfl (fun _ _ _ _ _ u h => h) (fun _ _ h => h)
      · refine asks_intro ?_; intro o ho a wx hc hout hp hi R hR; cases ho
        have e39 : a.tmps[39]?.getD undef = .int .i64 h.size := hp 4 (by omega) rfl
        have e41 : a.tmps[41]?.getD undef = .int .i64 ((x.length : Int) + 2) := hp 6 (by omega) rfl
        have q := IntWalk.i64_in ((h.size : Int) + ((x.length : Int) + 2)) (by omega)
        go_simp
        exact hR _ _ hc rfl (fun _ _ _ _ _ u h => h) (fun _ _ h => h)
      · refine asks_intro ?_; intro o ho a wx hc hout hp hi R hR; cases ho
        have e7 : a.tmps[7]? = some (.pointer (some ⟨g, 0, none⟩)) := hout 7 rfl
        go_simp
        exact hR _ _ hc rfl (fun _ _ _ _ _ u h => h) (fun _ _ h => h)
      · refine asks_intro ?_; intro o ho a wx hc hout hp hi R hR; cases ho
        have e43 : a.tmps[43]?.getD undef = .pointer (some ⟨g, 3, none⟩) := hp 8 (by omega) rfl
        have hbi : wx.heap[g]? = some (.cells #[.int .i64 h.seq, .int .i64 h.bank, .int .i64 h.size, .int .i64 h.count, .int .u32 h.sum] 78 (0, 0)) := hi 0 rfl
        have y1 := cell_blk hbi 3 _ rfl
        go_simp
        exact hR _ _ hc rfl (fun _ _ _ _ _ u h => h) (fun _ _ h => h)
      · refine asks_intro ?_; intro o ho a wx hc hout hp hi R hR; cases ho
        have e44 : a.tmps[44]?.getD undef = .int .i64 h.count := hp 9 (by omega) rfl
        have q := IntWalk.i64_in ((h.count : Int) + 1) (by omega)
        go_simp
        exact hR _ _ hc rfl (fun _ _ _ _ _ u h => h) (fun _ _ h => h)
      · refine asks_intro ?_; intro o ho a wx hc hout hp hi R hR; cases ho
        have e7 : a.tmps[7]? = some (.pointer (some ⟨g, 0, none⟩)) := hout 7 rfl
        go_simp
        exact hR _ _ hc rfl (fun _ _ _ _ _ u h => h) (fun _ _ h => h)
      · refine asks_intro ?_; intro o ho a wx hc hout hp hi R hR; cases ho
        have e46 : a.tmps[46]?.getD undef = .pointer (some ⟨g, 4, none⟩) := hp 11 (by omega) rfl
        have hbi : wx.heap[g]? = some (.cells #[.int .i64 h.seq, .int .i64 h.bank, .int .i64 h.size, .int .i64 h.count, .int .u32 h.sum] 78 (0, 0)) := hi 0 rfl
        have y1 := cell_blk hbi 4 _ rfl
        go_simp
        exact hR _ _ hc rfl (fun _ _ _ _ _ u h => h) (fun _ _ h => h)
      · refine asks_intro ?_; intro o ho a wx hc hout hp hi R hR; cases ho
        have e6 : a.tmps[6]? = some (.string ⟨(recB x).toArray⟩) := hout 6 rfl
        go_simp
        exact hR _ _ hc rfl (fun _ _ _ _ _ u h => h) (fun _ _ h => h)
      · refine asks_intro ?_; intro o ho a wx hc hout hp hi R hR; cases ho
        have e47 : a.tmps[47]?.getD undef = .int .u32 h.sum := hp 12 (by omega) rfl
        have e48 : a.tmps[48]?.getD undef = .string ⟨(recB x).toArray⟩ := hp 13 (by omega) rfl
        go_simp
        refine (crc_ok h.sum (by omega) (recB x) (by rw [hlen]; omega) wx).mono ?_
        rintro e w2 ⟨rfl, k1⟩
        exact ⟨_, rfl, hR _ _ (hc.trans k1) rfl (fun j _ _ _ _ u h => HST.out j u _ _ k1 h) (fun j _ h => HIST.out j _ _ k1 h)⟩
      · refine asks_intro ?_; intro o ho a wx hc hout hp hi R hR; cases ho
        have e7 : a.tmps[7]? = some (.pointer (some ⟨g, 0, none⟩)) := hout 7 rfl
        go_simp
        exact hR _ _ hc rfl (fun _ _ _ _ _ u h => h) (fun _ _ h => h)
      · refine asks_intro ?_; intro o ho a wx hc hout hp hi R hR; cases ho
        have e50 : a.tmps[50]?.getD undef = .pointer (some ⟨g, 0, none⟩) := hp 15 (by omega) rfl
        have e37 : a.tmps[37]?.getD undef = .int .i64 ((h.seq : Int) + 1) := hp 2 (by omega) rfl
        have hbi : wx.heap[g]? = some (.cells #[.int .i64 h.seq, .int .i64 h.bank, .int .i64 h.size, .int .i64 h.count, .int .u32 h.sum] 78 (0, 0)) := hi 0 rfl
        have y1 := cell_blk hbi 0 _ rfl
        have y2 := free_blk hbi 0
        go_simp
        refine hR _ _ (hc.setCell (p := ⟨g, 0, none⟩) (fun hlt => absurd hg (Nat.not_le_of_lt hlt)) _) (blk_set hbi _) (fun j hj hne hcn hwf u h => ?_) (fun q hq h => ?_)
        · rcases (show j = 0 ∨ j = 1 ∨ j = 2 ∨ j = 3 ∨ j = 4 ∨ j = 5 ∨ j = 6 ∨ j = 7 ∨ j = 8 ∨ j = 9 ∨ j = 10 ∨ j = 11 ∨ j = 12 ∨ j = 13 ∨ j = 14 ∨ j = 15 ∨ j = 16 ∨ j = 17 ∨ j = 18 ∨ j = 19 ∨ j = 20 ∨ j = 21 ∨ j = 22 by omega) with rfl | rfl | rfl | rfl | rfl | rfl | rfl | rfl | rfl | rfl | rfl | rfl | rfl | rfl | rfl | rfl | rfl | rfl | rfl | rfl | rfl | rfl | rfl <;> first | exact h | exact absurd hcn (by decide) | exact absurd rfl hne | exact absurd (hwf.symm.trans (by kernel_rfl)) Bool.false_ne_true
        · match q with
          | 0 => exact absurd hq (by decide)
          | q + 1 => trivial
      · refine asks_intro ?_; intro o ho a wx hc hout hp hi R hR; cases ho
        have e7 : a.tmps[7]? = some (.pointer (some ⟨g, 0, none⟩)) := hout 7 rfl
        go_simp
        exact hR _ _ hc rfl (fun _ _ _ _ _ u h => h) (fun _ _ h => h)
      · refine asks_intro ?_; intro o ho a wx hc hout hp hi R hR; cases ho
        have e51 : a.tmps[51]?.getD undef = .pointer (some ⟨g, 2, none⟩) := hp 17 (by omega) rfl
        have e42 : a.tmps[42]?.getD undef = .int .i64 ((h.size : Int) + ((x.length : Int) + 2)) := hp 7 (by omega) rfl
        obtain ⟨_, hbg16⟩ : ∃ _ : Value, wx.heap[g]? = some (.cells #[.int .i64 ((h.seq : Int) + 1), .int .i64 h.bank, .int .i64 h.size, .int .i64 h.count, .int .u32 h.sum] 78 (0, 0)) := hp 16 (by omega) rfl
        have y1 := cell_blk hbg16 2 _ rfl
        have y2 := free_blk hbg16 2
        go_simp
        refine hR _ _ (hc.setCell (p := ⟨g, 2, none⟩) (fun hlt => absurd hg (Nat.not_le_of_lt hlt)) _) (blk_set hbg16 _) (fun j hj hne hcn hwf u h => ?_) (fun q hq h => ?_)
        · rcases (show j = 0 ∨ j = 1 ∨ j = 2 ∨ j = 3 ∨ j = 4 ∨ j = 5 ∨ j = 6 ∨ j = 7 ∨ j = 8 ∨ j = 9 ∨ j = 10 ∨ j = 11 ∨ j = 12 ∨ j = 13 ∨ j = 14 ∨ j = 15 ∨ j = 16 ∨ j = 17 ∨ j = 18 ∨ j = 19 ∨ j = 20 ∨ j = 21 ∨ j = 22 by omega) with rfl | rfl | rfl | rfl | rfl | rfl | rfl | rfl | rfl | rfl | rfl | rfl | rfl | rfl | rfl | rfl | rfl | rfl | rfl | rfl | rfl | rfl | rfl <;> first | exact h | exact absurd hcn (by decide) | exact absurd rfl hne | exact absurd (hwf.symm.trans (by kernel_rfl)) Bool.false_ne_true
        · match q with
          | 0 => exact absurd hq (by decide)
          | q + 1 => trivial
      · refine asks_intro ?_; intro o ho a wx hc hout hp hi R hR; cases ho
        have e7 : a.tmps[7]? = some (.pointer (some ⟨g, 0, none⟩)) := hout 7 rfl
        go_simp
        exact hR _ _ hc rfl (fun _ _ _ _ _ u h => h) (fun _ _ h => h)
      · refine asks_intro ?_; intro o ho a wx hc hout hp hi R hR; cases ho
        have e52 : a.tmps[52]?.getD undef = .pointer (some ⟨g, 3, none⟩) := hp 19 (by omega) rfl
        have e45 : a.tmps[45]?.getD undef = .int .i64 ((h.count : Int) + 1) := hp 10 (by omega) rfl
        obtain ⟨_, hbg18⟩ : ∃ _ : Value, wx.heap[g]? = some (.cells #[.int .i64 ((h.seq : Int) + 1), .int .i64 h.bank, .int .i64 ((h.size : Int) + ((x.length : Int) + 2)), .int .i64 h.count, .int .u32 h.sum] 78 (0, 0)) := hp 18 (by omega) rfl
        have y1 := cell_blk hbg18 3 _ rfl
        have y2 := free_blk hbg18 3
        go_simp
        refine hR _ _ (hc.setCell (p := ⟨g, 3, none⟩) (fun hlt => absurd hg (Nat.not_le_of_lt hlt)) _) (blk_set hbg18 _) (fun j hj hne hcn hwf u h => ?_) (fun q hq h => ?_)
        · rcases (show j = 0 ∨ j = 1 ∨ j = 2 ∨ j = 3 ∨ j = 4 ∨ j = 5 ∨ j = 6 ∨ j = 7 ∨ j = 8 ∨ j = 9 ∨ j = 10 ∨ j = 11 ∨ j = 12 ∨ j = 13 ∨ j = 14 ∨ j = 15 ∨ j = 16 ∨ j = 17 ∨ j = 18 ∨ j = 19 ∨ j = 20 ∨ j = 21 ∨ j = 22 by omega) with rfl | rfl | rfl | rfl | rfl | rfl | rfl | rfl | rfl | rfl | rfl | rfl | rfl | rfl | rfl | rfl | rfl | rfl | rfl | rfl | rfl | rfl | rfl <;> first | exact h | exact absurd hcn (by decide) | exact absurd rfl hne | exact absurd (hwf.symm.trans (by kernel_rfl)) Bool.false_ne_true
        · match q with
          | 0 => exact absurd hq (by decide)
          | q + 1 => trivial
      · refine asks_intro ?_; intro o ho a wx hc hout hp hi R hR; cases ho
        have e7 : a.tmps[7]? = some (.pointer (some ⟨g, 0, none⟩)) := hout 7 rfl
        go_simp
        exact hR _ _ hc rfl (fun _ _ _ _ _ u h => h) (fun _ _ h => h)
      · refine asks_intro ?_; intro o ho a wx hc hout hp hi R hR; cases ho
        have e53 : a.tmps[53]?.getD undef = .pointer (some ⟨g, 4, none⟩) := hp 21 (by omega) rfl
        have e49 : a.tmps[49]?.getD undef = .int .u32 (crc h.sum (recB x)) := hp 14 (by omega) rfl
        obtain ⟨_, hbg20⟩ : ∃ _ : Value, wx.heap[g]? = some (.cells #[.int .i64 ((h.seq : Int) + 1), .int .i64 h.bank, .int .i64 ((h.size : Int) + ((x.length : Int) + 2)), .int .i64 ((h.count : Int) + 1), .int .u32 h.sum] 78 (0, 0)) := hp 20 (by omega) rfl
        have y1 := cell_blk hbg20 4 _ rfl
        have y2 := free_blk hbg20 4
        go_simp
        refine hR _ _ (hc.setCell (p := ⟨g, 4, none⟩) (fun hlt => absurd hg (Nat.not_le_of_lt hlt)) _) (blk_set hbg20 _) (fun j hj hne hcn hwf u h => ?_) (fun q hq h => ?_)
        · rcases (show j = 0 ∨ j = 1 ∨ j = 2 ∨ j = 3 ∨ j = 4 ∨ j = 5 ∨ j = 6 ∨ j = 7 ∨ j = 8 ∨ j = 9 ∨ j = 10 ∨ j = 11 ∨ j = 12 ∨ j = 13 ∨ j = 14 ∨ j = 15 ∨ j = 16 ∨ j = 17 ∨ j = 18 ∨ j = 19 ∨ j = 20 ∨ j = 21 ∨ j = 22 by omega) with rfl | rfl | rfl | rfl | rfl | rfl | rfl | rfl | rfl | rfl | rfl | rfl | rfl | rfl | rfl | rfl | rfl | rfl | rfl | rfl | rfl | rfl | rfl <;> first | exact h | exact absurd hcn (by decide) | exact absurd rfl hne | exact absurd (hwf.symm.trans (by kernel_rfl)) Bool.false_ne_true
        · match q with
          | 0 => exact absurd hq (by decide)
          | q + 1 => trivial
    · intro vs W9 hc hp
      have e35 : vs 0 = .pointer (some ⟨g, 0, none⟩) := hp 0 (by omega) rfl
      have e36 : vs 1 = .int .i64 h.seq := hp 1 (by omega) rfl
      have e37 : vs 2 = .int .i64 ((h.seq : Int) + 1) := hp 2 (by omega) rfl
      have e38 : vs 3 = .pointer (some ⟨g, 2, none⟩) := hp 3 (by omega) rfl
      have e39 : vs 4 = .int .i64 h.size := hp 4 (by omega) rfl
      have e40 : vs 5 = .string ⟨(recB x).toArray⟩ := hp 5 (by omega) rfl
      have e41 : vs 6 = .int .i64 ((x.length : Int) + 2) := hp 6 (by omega) rfl
      have e42 : vs 7 = .int .i64 ((h.size : Int) + ((x.length : Int) + 2)) := hp 7 (by omega) rfl
      have e43 : vs 8 = .pointer (some ⟨g, 3, none⟩) := hp 8 (by omega) rfl
      have e44 : vs 9 = .int .i64 h.count := hp 9 (by omega) rfl
      have e45 : vs 10 = .int .i64 ((h.count : Int) + 1) := hp 10 (by omega) rfl
      have e46 : vs 11 = .pointer (some ⟨g, 4, none⟩) := hp 11 (by omega) rfl
      have e47 : vs 12 = .int .u32 h.sum := hp 12 (by omega) rfl
      have e48 : vs 13 = .string ⟨(recB x).toArray⟩ := hp 13 (by omega) rfl
      have e49 : vs 14 = .int .u32 (crc h.sum (recB x)) := hp 14 (by omega) rfl
      have e50 : vs 15 = .pointer (some ⟨g, 0, none⟩) := hp 15 (by omega) rfl
      have e51 : vs 17 = .pointer (some ⟨g, 2, none⟩) := hp 17 (by omega) rfl
      have e52 : vs 19 = .pointer (some ⟨g, 3, none⟩) := hp 19 (by omega) rfl
      have e53 : vs 21 = .pointer (some ⟨g, 4, none⟩) := hp 21 (by omega) rfl
      obtain ⟨_, hbg22⟩ : ∃ _ : Value, W9.heap[g]? = some (.cells #[.int .i64 ((h.seq : Int) + 1), .int .i64 h.bank, .int .i64 ((h.size : Int) + ((x.length : Int) + 2)), .int .i64 ((h.count : Int) + 1), .int .u32 (crc h.sum (recB x))] 78 (0, 0)) := hp 22 (by omega) rfl
      simp only [List.take_succ_cons, List.take_zero, List.drop_succ_cons, List.drop_zero, putAll, Act.put, List.setIfInBounds_toArray, List.set_cons_zero, List.set_cons_succ, Nat.reduceAdd, e35, e36, e37, e38, e39, e40, e41, e42, e43, e44, e45, e46, e47, e48, e49, e50, e51, e52, e53]
      change wpList _ _ _ _ _ _
      have HW := Lib.hid hc
      have HG := Lib.hid hbg22
      have HIL : Hid (∀ i, InJ J D G B i → i < W9.heap.size) := Lib.hid (fun i hi => HINJ.out W9 hc i hi)
      clear hc hp hbg22
      clear e35 e36 e37 e38 e39 e40 e41 e42 e43 e44 e45 e46 e47 e48 e49 e50 e51 e52 e53
      go_wp2_with fail
      refine wp_region_par 9 [] [(5, 8), (7, 8)] [] [] [] (fun wx => Kept NoM W9 wx)
            [fun v _ => v = .pointer (some ⟨J, 0, none⟩), fun v _ => v = .int .i64 h.size, fun v _ => v = .string ⟨(recB x).toArray⟩, fun v _ => v = .agg #[.int .i64 ((h.seq : Int) + 1), .int .i64 h.bank, .int .i64 ((h.size : Int) + ((x.length : Int) + 2)), .int .i64 ((h.count : Int) + 1), .int .u32 (crc h.sum (recB x))], fun v _ => v = .pointer (some ⟨J, 0, none⟩), fun v wx => ∃ a5 cap5 O5, v = .slice a5 recs.length cap5 ∧ OwnS wx O5 9 1 EStr (.slice a5 recs.length cap5) recs ∧ ∀ o, O5 = some o → W9.heap.size ≤ o, fun v _ => v = .string ⟨x.toArray⟩, fun v wx => ∃ b, (v = .slice (some ⟨b, 0, none⟩) 1 1) ∧ wx.heap[b]? = some (.cells #[.string ⟨x.toArray⟩] 9 (0, 0)), fun v wx => ∃ a8 cap8, v = .slice a8 (recs.length + 1) cap8 ∧ RdS wx (InJ J D G B) 1 EStr (.slice a8 (recs.length + 1) cap8) (recs ++ [x]) ∧ ∀ b off, a8 = some ⟨b, off, none⟩ → W9.heap.size ≤ b] (by kernel_rfl) (by kernel_rfl) (by kernel_rfl) ((Kept.refl _ _).drew) (inits_nil) ?_ ?_
      · intro i hi9
        have hst := stab_all (posts := [fun v _ => v = .pointer (some ⟨J, 0, none⟩), fun v _ => v = .int .i64 h.size, fun v _ => v = .string ⟨(recB x).toArray⟩, fun v _ => v = .agg #[.int .i64 ((h.seq : Int) + 1), .int .i64 h.bank, .int .i64 ((h.size : Int) + ((x.length : Int) + 2)), .int .i64 ((h.count : Int) + 1), .int .u32 (crc h.sum (recB x))], fun v _ => v = .pointer (some ⟨J, 0, none⟩), fun v wx => ∃ a5 cap5 O5, v = .slice a5 recs.length cap5 ∧ OwnS wx O5 9 1 EStr (.slice a5 recs.length cap5) recs ∧ ∀ o, O5 = some o → W9.heap.size ≤ o, fun v _ => v = .string ⟨x.toArray⟩, fun v wx => ∃ b, (v = .slice (some ⟨b, 0, none⟩) 1 1) ∧ wx.heap[b]? = some (.cells #[.string ⟨x.toArray⟩] 9 (0, 0)), fun v wx => ∃ a8 cap8, v = .slice a8 (recs.length + 1) cap8 ∧ RdS wx (InJ J D G B) 1 EStr (.slice a8 (recs.length + 1) cap8) (recs ++ [x]) ∧ ∀ b off, a8 = some ⟨b, off, none⟩ → W9.heap.size ≤ b])        (stab_cons (stab_const _) (stab_cons (stab_const _) (stab_cons (stab_const _) (stab_cons (stab_const _) (stab_cons (stab_const _) (stab_cons (fun _ _ _ k ⟨a5, cap5, O5, q1, q2, q3⟩ => ⟨a5, cap5, O5, q1, q2.kept k (fun _ _ x => x) (fun _ _ x => x), q3⟩) (stab_cons (stab_const _) (stab_cons (stab_blk (fun b v => v = .slice (some ⟨b, 0, none⟩) 1 1) (fun b => b) (fun b => .cells #[.string ⟨x.toArray⟩] 9 (0, 0))) (stab_cons (fun _ _ _ k ⟨a8, cap8, q1, q2, q3⟩ => ⟨a8, cap8, q1, q2.kept k.of_no (fun _ _ x => x), q3⟩) stab_nil)))))))))
        have hist := init_stab (inits := []) (fun p h => by cases h)
        have HST := Lib.hid hst
        have HIST := Lib.hid hist
        clear hst hist
        rcases (show i = 0 ∨ i = 1 ∨ i = 2 ∨ i = 3 ∨ i = 4 ∨ i = 5 ∨ i = 6 ∨ i = 7 ∨ i = 8 by omega) with rfl | rfl | rfl | rfl | rfl | rfl | rfl | rfl | rfl
        · refine asks_intro ?_; intro o ho a wx hc hout hp hi R hR; cases ho
          have e0 : a.tmps[0]? = some (.pointer (some ⟨J, 0, none⟩)) := hout 0 rfl
          go_simp
          exact hR _ _ hc rfl (fun _ _ _ _ _ u h => h) (fun _ _ h => h)
        · refine asks_intro ?_; intro o ho a wx hc hout hp hi R hR; cases ho
          have e8 : a.tmps[8]? = some (.int .i64 h.size) := hout 8 rfl
          go_simp
          exact hR _ _ hc rfl (fun _ _ _ _ _ u h => h) (fun _ _ h => h)
        · refine asks_intro ?_; intro o ho a wx hc hout hp hi R hR; cases ho
          have e6 : a.tmps[6]? = some (.string ⟨(recB x).toArray⟩) := hout 6 rfl
          go_simp
          exact hR _ _ hc rfl (fun _ _ _ _ _ u h => h) (fun _ _ h => h)
        · refine asks_intro ?_; intro o ho a wx hc hout hp hi R hR; cases ho
          have e7 : a.tmps[7]? = some (.pointer (some ⟨g, 0, none⟩)) := hout 7 rfl
          have hbi := hc.blk HG.out (fun x => x)
          have y0 := cell_blk hbi 0 _ rfl
          have y1 := cell_blk hbi 1 _ rfl
          have y2 := cell_blk hbi 2 _ rfl
          have y3 := cell_blk hbi 3 _ rfl
          have y4 := cell_blk hbi 4 _ rfl
          go_simp
          exact hR _ _ hc rfl (fun _ _ _ _ _ u h => h) (fun _ _ h => h)
        · refine asks_intro ?_; intro o ho a wx hc hout hp hi R hR; cases ho
          have e0 : a.tmps[0]? = some (.pointer (some ⟨J, 0, none⟩)) := hout 0 rfl
          go_simp
          exact hR _ _ hc rfl (fun _ _ _ _ _ u h => h) (fun _ _ h => h)
        · refine asks_intro ?_; intro o ho a wx hc hout hp hi R hR; cases ho
          have e58 : a.tmps[58]?.getD undef = .pointer (some ⟨J, 0, none⟩) := hp 4 (by omega) rfl
          go_simp
          refine (records_ok wx (HS.out.kept0 (HW.out.trans hc)) (by omega)).mono ?_
          rintro e w2 ⟨a5, cap5, O5, rfl, q1, q2, q3⟩
          exact ⟨_, rfl, hR _ _ (hc.trans q3) ⟨a5, cap5, O5, rfl, q1, fun o ho => by rcases q2 with q2 | ⟨g2, q2, q4⟩; exact absurd (q2.symm.trans ho) (by simp); exact Nat.le_trans hc.size (by rw [ho] at q2; cases q2; exact q4)⟩ (fun j _ _ _ _ u h => HST.out j u _ _ q3 h) (fun j _ h => HIST.out j _ _ q3 h)⟩
        · refine asks_intro ?_; intro o ho a wx hc hout hp hi R hR; cases ho
          have e1 : a.tmps[1]? = some (.string ⟨x.toArray⟩) := hout 1 rfl
          go_simp
          exact hR _ _ hc rfl (fun _ _ _ _ _ u h => h) (fun _ _ h => h)
        · refine asks_intro ?_; intro o ho a wx hc hout hp hi R hR; cases ho
          have e60 : a.tmps[60]?.getD undef = .string ⟨x.toArray⟩ := hp 6 (by omega) rfl
          go_simp
          exact hR _ _ (hc.alloc _) ⟨_, rfl, blk_new _ _⟩ (fun j _ _ _ _ u h => HST.out j u _ _ ((Kept.refl _ _).alloc _) h) (fun j _ h => HIST.out j _ _ ((Kept.refl _ _).alloc _) h)
        · refine asks_intro ?_; intro o ho a wx hc hout hp hi R hR; cases ho
          obtain ⟨a5, cap5, O5, e59, o5, n5⟩ : ∃ a5 cap5 O5, a.tmps[59]?.getD undef = .slice a5 recs.length cap5 ∧ OwnS wx O5 9 1 EStr (.slice a5 recs.length cap5) recs ∧ ∀ o, O5 = some o → W9.heap.size ≤ o := hp 5 (by omega) rfl
          obtain ⟨b, e61, hb61⟩ : ∃ b, (a.tmps[61]?.getD undef = .slice (some ⟨b, 0, none⟩) 1 1) ∧ wx.heap[b]? = some (.cells #[.string ⟨x.toArray⟩] 9 (0, 0)) := hp 7 (by omega) rfl
          refine gives_append_S (M := NoM) (ys := [x]) (.tmp 59) (.tmp 61) 42 rfl 16 tyStrs (.slice a5 recs.length cap5) (by go_simp) o5 (.slice (some ⟨b, 0, none⟩) 1 1) (by go_simp) (one_str hb61) eStr_one (by unfold maxLen; simp; omega) (by simp; omega) ?_
          intro a8 cap8 w2 O8 q1 q2 q3
          have hC : Kept NoM W9 w2 := hc.trans' q2 (fun i hi h => absurd (n5 i h.symm) (by omega))
          have hr8 : RdS w2 (InJ J D G B) 1 EStr (.slice a8 (recs.length + 1) cap8) (recs ++ [x]) := q1.rd (fun g2 hg2 hin => by have := HIL.out g2 hin; rcases q3 with q3 | ⟨g3, q3, q4⟩; have := n5 g2 (q3.symm.trans hg2); omega; have h9 := hc.size; rw [hg2] at q3; cases q3; omega)
          have hn8 : ∀ b off, a8 = some ⟨b, off, none⟩ → W9.heap.size ≤ b := fun b off e => by obtain ⟨a9, c9, s1, _, _, _, s5⟩ := q1.shape; simp only [Value.slice.injEq] at s1; obtain ⟨rfl, _, rfl⟩ := s1; obtain ⟨g9, s6, s7⟩ := s5 _ e; cases s6; rcases q3 with q3 | ⟨g3, q3, q4⟩; exact n5 _ (q3.symm.trans s7); rw [s7] at q3; cases q3; have := hc.size; omega
          refine hR _ _ hC ⟨a8, cap8, rfl, hr8, hn8⟩ (fun j hj hne hcn hwf u h => ?_) (fun q hq h => ?_)
          · rcases (show j = 0 ∨ j = 1 ∨ j = 2 ∨ j = 3 ∨ j = 4 ∨ j = 5 ∨ j = 6 ∨ j = 7 ∨ j = 8 by omega) with rfl | rfl | rfl | rfl | rfl | rfl | rfl | rfl | rfl <;> first | exact h | exact absurd hcn (by decide) | exact absurd rfl hne | exact absurd (hwf.symm.trans (by kernel_rfl)) Bool.false_ne_true
          · trivial
      · intro vs w10 hc hp
        have e54 : vs 0 = .pointer (some ⟨J, 0, none⟩) := hp 0 (by omega) rfl
        have e55 : vs 1 = .int .i64 h.size := hp 1 (by omega) rfl
        have e56 : vs 2 = .string ⟨(recB x).toArray⟩ := hp 2 (by omega) rfl
        have e57 : vs 3 = .agg #[.int .i64 ((h.seq : Int) + 1), .int .i64 h.bank, .int .i64 ((h.size : Int) + ((x.length : Int) + 2)), .int .i64 ((h.count : Int) + 1), .int .u32 (crc h.sum (recB x))] := hp 3 (by omega) rfl
        have e58 : vs 4 = .pointer (some ⟨J, 0, none⟩) := hp 4 (by omega) rfl
        have e60 : vs 6 = .string ⟨x.toArray⟩ := hp 6 (by omega) rfl
        obtain ⟨a8, cap8, e62, r8, nn8⟩ : ∃ a8 cap8, vs 8 = .slice a8 (recs.length + 1) cap8 ∧ RdS w10 (InJ J D G B) 1 EStr (.slice a8 (recs.length + 1) cap8) (recs ++ [x]) ∧ ∀ b off, a8 = some ⟨b, off, none⟩ → W9.heap.size ≤ b := hp 8 (by omega) rfl
        simp only [List.take_succ_cons, List.take_zero, List.drop_succ_cons, List.drop_zero, putAll, Act.put, List.setIfInBounds_toArray, List.set_cons_zero, List.set_cons_succ, Nat.reduceAdd, e54, e55, e56, e57, e58, e60]
        change wpList _ _ _ _ _ _
        have HK10 := Lib.hid hc
        have HR10 := Lib.hid r8
        have HN10 := Lib.hid nn8
        have HL10 := Lib.hid (lt_of_block (hc.blk HG.out (fun x => x)))
        clear hc hp r8 nn8 e54 e55 e56 e57 e58 e60
        rcases hF : jkeepF d h (appHd h x) h.size (recB x) with _ | _
        · have KP : Hid (Calls Try.prog 45 #[.pointer (some ⟨J, 0, none⟩), .int .i64 h.size, .string ⟨(recB x).toArray⟩, .agg #[.int .i64 ((h.seq : Int) + 1), .int .i64 h.bank, .int .i64 ((h.size : Int) + ((x.length : Int) + 2)), .int .i64 ((h.count : Int) + 1), .int .u32 (crc h.sum (recB x))], .slice a8 (recs.length + 1) cap8] w10 fun e w' => e = .returned (.int .i64 0) ∧ JS w' J D G B (jkeepD d h (appHd h x) h.size (recB x)) (appHd h x) (recs ++ [x]) false ∧ Kept (InJ J D G B) w10 w' ∧ w'.cell? ⟨J, 6, none⟩ = some (.slice a8 (recs.length + 1) cap8)) := by
            have k := keep_ok (appHd h x) h.size (recB x) (.slice a8 (recs.length + 1) cap8) (recs ++ [x]) h2 HB1.out HB2.out HB3.out w10 (HS.out.kept0 (HW.out.trans HK10.out)) HR10.out
            rw [hF] at k; rw [HHN.out] at k
            exact Lib.hid (k.mono fun e w' q => ⟨q.1, q.2.1, q.2.2.1, q.2.2.2 rfl⟩)
          have HF := Lib.hid hF
          clear hF
          go_wp2_with (go_at_call 45; refine KP.out.mono ?_; rintro e w2 ⟨rfl, js2, kk2, cc2⟩; have CC2 := Lib.hid cc2; clear cc2; have HJ2 := Lib.hid js2; have HK2 := Lib.hid kk2; obtain ⟨a9, cap9, c0, c1, c2, c3, c4, c5, c6, c7, hr9⟩ := js2.cells; rw [HLN.out] at c6; clear hr9 c0 c1 c2 c3 c4 c5 c7 js2 kk2)
          go_ret2
          exact ⟨QN.out _ HF.out HJ2.out ((HW.out.trans HK10.out).of_no.trans HK2.out) ⟨a8, cap8, CC2.out, fun b off e => Nat.le_trans HW.out.size (HN10.out b off e)⟩, trivial⟩
        · have KP : Hid (Calls Try.prog 45 #[.pointer (some ⟨J, 0, none⟩), .int .i64 h.size, .string ⟨(recB x).toArray⟩, .agg #[.int .i64 ((h.seq : Int) + 1), .int .i64 h.bank, .int .i64 ((h.size : Int) + ((x.length : Int) + 2)), .int .i64 ((h.count : Int) + 1), .int .u32 (crc h.sum (recB x))], .slice a8 (recs.length + 1) cap8] w10 fun e w' => e = .returned (.int .i64 13) ∧ JS w' J D G B (jkeepD d h (appHd h x) h.size (recB x)) h recs true ∧ Kept (InJ J D G B) w10 w') := by
            have k := keep_ok (appHd h x) h.size (recB x) (.slice a8 (recs.length + 1) cap8) (recs ++ [x]) h2 HB1.out HB2.out HB3.out w10 (HS.out.kept0 (HW.out.trans HK10.out)) HR10.out
            rw [hF] at k; rw [HHN.out] at k
            exact Lib.hid (k.mono fun e w' q => ⟨q.1, q.2.1, q.2.2.1⟩)
          have HF := Lib.hid hF
          clear hF
          go_wp2_with (go_at_call 45; refine KP.out.mono ?_; rintro e w2 ⟨rfl, js2, kk2⟩; have HJ2 := Lib.hid js2; have HK2 := Lib.hid kk2; clear js2 kk2)
          go_ret2
          exact ⟨QY.out _ HF.out HJ2.out ((HW.out.trans HK10.out).of_no.trans HK2.out), trivial⟩
end
end Go.Proofs.Ytjcmnobfdidnkaa
