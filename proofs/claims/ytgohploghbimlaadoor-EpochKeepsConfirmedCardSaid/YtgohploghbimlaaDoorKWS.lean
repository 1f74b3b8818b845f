/- Texts that belong together: WS, WT. -/
import Derived.Test.YtgohploghbimlaaDoorKWO
import Derived.Test.YtgohploghbimlaaDoorKWF
import Derived.Test.YtgohploghbimlaaDoorKOwn
import Derived.BigRegion
set_option linter.unusedVariables false
set_option linter.unusedSimpArgs false
set_option linter.unusedSectionVars false
/- Walk: append. -/
namespace Go.Proofs.YtgohploghbimlaaDoor
open Go.RowKit
set_option maxHeartbeats 1000000
set_option maxRecDepth 4000
variable [A : Inhabited (Nat → Prop)]

theorem refuse_ok (D : Nat) (O : Option Nat) (r : Rep) (m : Let) (ls : List Let) (w : World) (hd : Deed w D O r ls) (b c : Nat) (hb : w.cell? ⟨b, 0, none⟩ = some (.pointer (some ⟨D, 0, none⟩))) (hc : w.cell? ⟨c, 1, none⟩ = some (.int .i64 m.src)) (hl : ls.length ≤ 90000) :
    Calls Tryd.prog 65 #[.pointer (some ⟨b, 0, none⟩), .pointer (some ⟨c, 0, none⟩)] w fun e w' => e = .returned (.tuple #[]) ∧ DStep D O w r (ls ++ [refusal r m]) w' := by
  have dd := Lib.hid hd
  clear hd
  go_enter Tryd.func65, Tryd.ntmps65
  go_wp2_with fail
  refine (send_ok D O r ls _ (dd.out.kept0 ((Kept.refl NoM w).alloc _)) ⟨4, 0, m.src, 0, 0, 0, [], 0, false⟩ _ _ (blk_new' _ _ _ rfl) (RdItems.nil _ _) (fun h => dd.out.out _ (Nat.le_refl _) (ND.of h)) (by omega)).mono ?_
  rintro e w3 ⟨rfl, hst, _⟩
  go_wp2
  go_end0
  exact ⟨rfl, DStep.behind ((Kept.refl _ w).alloc _) (NewO.refl _ _) hst⟩

theorem append_old (D : Nat) (O : Option Nat) (r : Rep) (m : Let) (iv : Value) (ls : List Let) (w : World) (hd : Deed w D O r ls) (hiv : RdItems w (ND D O) iv m.items) (he : m.ep < r.epoch) (hl : ls.length ≤ 90000) :
    Calls Tryd.prog 50 #[.pointer (some ⟨D, 0, none⟩), .agg #[.int .i64 m.kind, .int .i64 m.src, .int .i64 m.dst, .int .i64 m.ep, .int .i64 m.pos, .int .i64 m.aep, iv, .int .i64 m.conf, .bool m.yes]] w fun e w' => e = .returned (.tuple #[]) ∧ DStep D O w (appendF r m).1 (ls ++ (appendF r m).2) w' := by
  have HF := Lib.hid (show appendF r m = (r, [refusal r m]) by unfold appendF; rw [if_pos he])
  obtain ⟨ia, icap, rfl, _, _⟩ := hiv.shape
  have dd := Lib.hid hd
  obtain ⟨lv, vv, mv, tv, hD, hlv, hvv, hmv, hown, hOD⟩ := hd
  have hDs := lt_of_block hD
  have hOs := hown.lt
  have c2D := cell_blk hD 2 _ rfl
  clear hlv hvv hmv hown hD
  go_enter Tryd.func50, Tryd.ntmps50
  go_wp2_with fail
  go_quiet (fail)
  go_wp2_with fail
  refine (refuse_ok D O r m ls _ (dd.out.kept0 ((((Kept.refl NoM w).alloc _).alloc _).drewN _)) _ _ (cell_blk (blk_drewN (blk_old (blk_new' w _ w.heap.size rfl) _) _) 0 _ rfl) (cell_blk (blk_drewN (blk_new' _ _ _ (by simp)) _) 1 _ rfl) hl).mono ?_
  rintro e w3 ⟨rfl, hst⟩
  go_wp2
  refine bodyPost_ret (results_none rfl _ _ _) rfl ?_
  rw [HF.out]
  exact ⟨rfl, DStep.behind ((((Kept.refl _ w).alloc _).alloc _).drewN _) (NewO.refl _ _) hst⟩

theorem append_lead (D : Nat) (O : Option Nat) (r : Rep) (m : Let) (iv : Value) (ls : List Let) (w : World) (hd : Deed w D O r ls) (hiv : RdItems w (ND D O) iv m.items) (he : ¬ m.ep < r.epoch) (h3 : r.role = 3) :
    Calls Tryd.prog 50 #[.pointer (some ⟨D, 0, none⟩), .agg #[.int .i64 m.kind, .int .i64 m.src, .int .i64 m.dst, .int .i64 m.ep, .int .i64 m.pos, .int .i64 m.aep, iv, .int .i64 m.conf, .bool m.yes]] w fun e w' => e = .returned (.tuple #[]) ∧ DStep D O w (appendF r m).1 (ls ++ (appendF r m).2) w' := by
  have HF := Lib.hid (show appendF r m = (r, []) by unfold appendF; rw [if_neg he, if_pos h3])
  obtain ⟨ia, icap, rfl, _, _⟩ := hiv.shape
  have dd := Lib.hid hd
  obtain ⟨lv, vv, mv, tv, hD, hlv, hvv, hmv, hown, hOD⟩ := hd
  have hDs := lt_of_block hD
  have c2D := cell_blk hD 2 _ rfl
  have c4D := cell_blk hD 4 _ rfl
  have t1 := decide_eq_false he
  have t2 : (r.role == 3) = true := by rw [beq_iff_eq]; exact h3
  clear hlv hvv hmv hown hD h3
  go_enter Tryd.func50, Tryd.ntmps50
  go_wp2_with fail
  go_quiet (fail)
  go_wp2_with fail
  refine bodyPost_ret (results_none rfl _ _ _) rfl ?_
  rw [HF.out]
  refine ⟨rfl, ?_⟩
  simp only [List.append_nil]
  exact ⟨O, dd.out.kept0 ((((Kept.refl NoM w).alloc _).alloc _).drewN _), (((Kept.refl _ w).alloc _).alloc _).drewN _, NewO.refl _ _⟩
end Go.Proofs.YtgohploghbimlaaDoor

/- Walk: append, the refusals of a follower. -/
namespace Go.Proofs.YtgohploghbimlaaDoor
open Go.RowKit
set_option maxHeartbeats 1000000
set_option maxRecDepth 4000
variable [A : Inhabited (Nat → Prop)]

theorem append_less (D : Nat) (O : Option Nat) (r : Rep) (m : Let) (iv : Value) (ls : List Let) (w : World) (hd : Deed w D O r ls) (hiv : RdItems w (ND D O) iv m.items) (he : ¬ m.ep < r.epoch) (h3 : r.role ≠ 3) (hlt : (r.log.length : Int) < m.pos) (hl : ls.length ≤ 90000) :
    Calls Tryd.prog 50 #[.pointer (some ⟨D, 0, none⟩), .agg #[.int .i64 m.kind, .int .i64 m.src, .int .i64 m.dst, .int .i64 m.ep, .int .i64 m.pos, .int .i64 m.aep, iv, .int .i64 m.conf, .bool m.yes]] w fun e w' => e = .returned (.tuple #[]) ∧ DStep D O w (appendF r m).1 (ls ++ (appendF r m).2) w' := by
  have HF := Lib.hid (show appendF r m = (followF r, [refusal r m]) by unfold appendF; rw [if_neg he, if_neg h3]; simp only; rw [if_pos (.inl hlt)])
  obtain ⟨ia, icap, rfl, _, _⟩ := hiv.shape
  have dd := Lib.hid hd
  obtain ⟨lv, vv, mv, tv, hD, hlv, hvv, hmv, hown, hOD⟩ := hd
  have hDs := lt_of_block hD
  have hOs := Lib.hid hown.lt
  have c2D := cell_blk hD 2 _ rfl
  have c4D := cell_blk hD 4 _ rfl
  have t1 := decide_eq_false he
  have t2 : (r.role == 3) = false := by rw [beq_eq_false_iff_ne]; exact h3
  clear hlv hvv hmv hown hD h3
  go_enter Tryd.func50, Tryd.ntmps50
  go_wp2_with fail
  go_quiet (fail)
  go_wp2_with fail
  refine (follow_ok D O r ls _ (dd.out.kept0 ((((Kept.refl NoM w).alloc _).alloc _).drewN _))).mono ?_
  rintro e w3 ⟨rfl, O3, d3, k3, n3⟩
  have nB : ∀ i, w.heap.size ≤ i → ¬ MD D O i := by
    rintro i hi (h | h)
    · omega
    · have := hOs.out _ h.symm; omega
  have bB := k3.blk (k := w.heap.size) (blk_drewN (blk_old (blk_new' w _ w.heap.size rfl) _) _) (nB _ (by omega))
  have bM := k3.blk (k := w.heap.size + 1) (blk_drewN (blk_new' _ _ _ (by simp)) _) (nB _ (by omega))
  have c0B := cell_blk bB 0 _ rfl
  have c1M := cell_blk bM 1 _ rfl
  have c4M := cell_blk bM 4 _ rfl
  have c5M := cell_blk bM 5 _ rfl
  have KX := Lib.hid (((((Kept.refl (MD D O) w).alloc _).alloc _).drewN _).trans k3)
  have NX := Lib.hid (n3.of_le (w := w) (by show w.heap.size ≤ ((w.alloc _).alloc _).heap.size; simp; omega))
  have DX := Lib.hid d3
  obtain ⟨lv3, vv3, mv3, tv3, hD3, hlv3, _, _, _, _⟩ := d3
  obtain ⟨la3, lcap3, rfl, _, _⟩ := hlv3.shape
  have c5D := cell_blk hD3 5 _ rfl
  have hlt' : ((followF r).log.length : Int) < m.pos := hlt
  clear bB bM hlv3 hD3 k3 n3 hlt
  go_wp2_with fail
  go_quiet (fail)
  go_wp2_with fail
  refine (refuse_ok D O3 (followF r) m ls _ (DX.out.kept0 ((Kept.refl NoM w3).drewN _)) _ _ c0B c1M hl).mono ?_
  rintro e w4 ⟨rfl, hst⟩
  go_wp2
  refine bodyPost_ret (results_none rfl _ _ _) rfl ?_
  rw [HF.out]
  exact ⟨rfl, DStep.behind (KX.out.drewN _) NX.out hst⟩

theorem append_diff (D : Nat) (O : Option Nat) (r : Rep) (m : Let) (iv : Value) (ls : List Let) (w : World) (hd : Deed w D O r ls) (hiv : RdItems w (ND D O) iv m.items) (he : ¬ m.ep < r.epoch) (h3 : r.role ≠ 3) (p : Nat) (hp : m.pos = (p : Int)) (hpl : p ≤ r.log.length) (hne : lastF (r.log.take p) ≠ m.aep) (hll : r.log.length ≤ 10000) (hl : ls.length ≤ 90000) :
    Calls Tryd.prog 50 #[.pointer (some ⟨D, 0, none⟩), .agg #[.int .i64 m.kind, .int .i64 m.src, .int .i64 m.dst, .int .i64 m.ep, .int .i64 m.pos, .int .i64 m.aep, iv, .int .i64 m.conf, .bool m.yes]] w fun e w' => e = .returned (.tuple #[]) ∧ DStep D O w (appendF r m).1 (ls ++ (appendF r m).2) w' := by
  have HF := Lib.hid (show appendF r m = (followF r, [refusal r m]) by unfold appendF; rw [if_neg he, if_neg h3]; simp only; rw [if_pos (.inr (by rw [hp]; exact hne))])
  obtain ⟨ia, icap, rfl, _, _⟩ := hiv.shape
  obtain ⟨kind, src, dst, ep, pos, aep, items, conf2, yes⟩ := m
  simp only at hp he hne hiv
  subst hp
  have dd := Lib.hid hd
  obtain ⟨lv, vv, mv, tv, hD, hlv, hvv, hmv, hown, hOD⟩ := hd
  have hDs := lt_of_block hD
  have hOs := Lib.hid hown.lt
  have c2D := cell_blk hD 2 _ rfl
  have c4D := cell_blk hD 4 _ rfl
  have t1 := decide_eq_false he
  have t2 : (r.role == 3) = false := by rw [beq_eq_false_iff_ne]; exact h3
  clear hlv hvv hmv hown hD h3
  go_enter Tryd.func50, Tryd.ntmps50
  go_wp2_with fail
  go_quiet (fail)
  go_wp2_with fail
  refine (follow_ok D O r ls _ (dd.out.kept0 ((((Kept.refl NoM w).alloc _).alloc _).drewN _))).mono ?_
  rintro e w3 ⟨rfl, O3, d3, k3, n3⟩
  have nB : ∀ i, w.heap.size ≤ i → ¬ MD D O i := by
    rintro i hi (h | h)
    · omega
    · have := hOs.out _ h.symm; omega
  have bB := k3.blk (k := w.heap.size) (blk_drewN (blk_old (blk_new' w _ w.heap.size rfl) _) _) (nB _ (by omega))
  have bM := k3.blk (k := w.heap.size + 1) (blk_drewN (blk_new' _ _ _ (by simp)) _) (nB _ (by omega))
  have c0B := cell_blk bB 0 _ rfl
  have c1M := cell_blk bM 1 _ rfl
  have c4M := cell_blk bM 4 _ rfl
  have c5M := cell_blk bM 5 _ rfl
  have KX := Lib.hid (((((Kept.refl (MD D O) w).alloc _).alloc _).drewN _).trans k3)
  have NX := Lib.hid (n3.of_le (w := w) (by show w.heap.size ≤ ((w.alloc _).alloc _).heap.size; simp; omega))
  have DX := Lib.hid d3
  obtain ⟨lv3, vv3, mv3, tv3, hD3, hlv3, _, _, _, _⟩ := d3
  obtain ⟨la3, lcap3, rfl, hlc3, _⟩ := hlv3.shape
  have c5D := cell_blk hD3 5 _ rfl
  have t5 : decide (((followF r).log.length : Int) < (p : Int)) = false := decide_eq_false (by show ¬ ((r.log.length : Int) < p); omega)
  have t6 : decide ((followF r).log.length < p) = false := decide_eq_false (by show ¬ (r.log.length < p); omega)
  have t7 : (lastF (r.log.take p) != aep) = true := by rw [bne_iff_ne]; exact hne
  obtain ⟨ii, zz, ty1, ty2, ty3, ty4, _⟩ := tyItems
  obtain ⟨sa1, sc1, hsl1, hrd1⟩ := RdS.slice 28 45 ii ty1 ty2 ty4 hlv3 0 p (Nat.zero_le _) hpl none (.inr ⟨rfl, rfl⟩)
  simp only [Nat.sub_zero, List.drop_zero] at hsl1 hrd1
  have r4 : ∀ n, RdS (w3.drewN n) (ND D O3) 2 EItem (.slice sa1 p sc1) (r.log.take p) := fun n => hrd1.kept ((Kept.refl _ w3).drewN n) (fun _ _ h => h)
  have hbl : (r.log.take p).length ≤ 1000000000 := by simp; omega
  clear bB bM hD3 k3 n3 hne hlv3 hrd1 ty1 ty2 ty3 ty4
  go_wp2_with fail
  go_quiet ((go_at_call 41; exact quiet_eq (last_ok _ (r.log.take p) (ND D O3) _ (r4 _) hbl)))
  go_wp2_with fail
  refine (refuse_ok D O3 (followF r) ⟨kind, src, dst, ep, p, aep, items, conf2, yes⟩ ls _ (DX.out.kept0 ((Kept.refl NoM w3).drewN _)) _ _ c0B c1M hl).mono ?_
  rintro e w4 ⟨rfl, hst⟩
  go_wp2
  refine bodyPost_ret (results_none rfl _ _ _) rfl ?_
  rw [HF.out]
  exact ⟨rfl, DStep.behind (KX.out.drewN _) NX.out hst⟩
end Go.Proofs.YtgohploghbimlaaDoor
