/- Walk: log. -/
import Derived.Test.YtgohploghbimlaaDoorKWD
import Derived.Test.YtgohploghbimlaaDoorKWF
import Derived.Deep.RegionHeld3
set_option linter.unusedVariables false
set_option linter.unusedSimpArgs false
set_option linter.unusedSectionVars false
namespace Go.Proofs.YtgohploghbimlaaDoor
open Go.RowKit
set_option maxHeartbeats 1000000
variable [A : Inhabited (Nat → Prop)]

theorem log_ok (D : Nat) (O : Option Nat) (r : Rep) (ls : List Let) (w : World) (hd : Deed w D O r ls) (v : Value) (ks : List Int) (hv : RdInts w (ND D O) v ks)
    (hks : ∀ k ∈ ks, 0 ≤ k ∧ k < r.mat.length) (hmat : ∀ x ∈ r.mat, 0 ≤ x ∧ x ≤ r.log.length) (hll : r.log.length ≤ 10000) (hkl : ks.length ≤ 1000) (hsl : ls.length ≤ 90000) :
    Calls Tryd.prog 36 #[.pointer (some ⟨D, 0, none⟩), v] w fun e w' => e = .returned (.tuple #[]) ∧ DStep D O w r (ls ++ ks.map (logLet r)) w' := by
  obtain ⟨va, vcap, rfl, hvc, _⟩ := hv.shape
  go_enter Tryd.func36, Tryd.ntmps36
  go_wp2
  go_loopw [10] (fun i wr => ∃ k : Nat, k ≤ ks.length ∧ i = .int .i64 k ∧ ∃ Ox, Deed wr D Ox r (ls ++ (ks.take k).map (logLet r)) ∧ Kept (MD D O) w wr ∧ NewO w O Ox) (fun i _ => ks.length - (intOf i).toNat)
  case atStart => exact ⟨0, Nat.zero_le _, rfl, O, by simpa using hd, Kept.refl _ _, NewO.refl _ _⟩
  case round =>
    obtain ⟨k, hk, rfl, Ox, hdr, hK, hN⟩ := hrel
    by_cases hlt : k < ks.length
    · obtain ⟨x, hx⟩ := get_at hlt
      have hxm := hks x (List.mem_of_getElem? hx)
      obtain ⟨xn, rfl⟩ := Int.eq_ofNat_of_zero_le hxm.1
      obtain ⟨p, hp⟩ := get_at (xs := r.mat) (k := xn) (by omega)
      have hpm := hmat p (List.mem_of_getElem? hp)
      obtain ⟨pn, rfl⟩ := Int.eq_ofNat_of_zero_le hpm.1
      have hll2 : (ls ++ (ks.take k).map (logLet r)).length ≤ 91000 := by simp; omega
      have dd := Lib.hid hdr
      obtain ⟨lv, vv, mv, tv, hD, hlv, hvv, hmv, hown, hOD⟩ := hdr
      obtain ⟨la, lcap, rfl, hlc, hlm⟩ := hlv.shape
      obtain ⟨ma, mcap, rfl, _, _⟩ := hmv.shape
      obtain ⟨vb, voff, e0, hvM, _, cv⟩ := (hv.step hK.nd (ND.sub hN)).at hx
      obtain ⟨mb, moff, e1, hmM, _, cm⟩ := hmv.at hp
      subst e0; subst e1
      have hvD : ¬ vb = D := fun h => hvM (.inl h)
      have hmD : ¬ mb = D := fun h => hmM (.inl h)
      have hDs := lt_of_block hD
      obtain ⟨w0, e0, qlv, qvv, qmv, qown, qcv, qcm, zD, zs, zK⟩ : ∃ w0, wr = putB w0 D _ 77 ∧ RdItems w0 (ND D Ox) _ r.log ∧ RdBools w0 (ND D Ox) vv r.votes ∧ RdInts w0 (ND D Ox) _ r.mat ∧ OwnS w0 Ox 57 9 (ELet w0 (ND D Ox)) _ _ ∧ w0.cell? _ = some _ ∧ w0.cell? _ = some _ ∧ D < w0.heap.size ∧ w.heap.size ≤ w0.heap.size ∧ Kept (MD D O) w w0 :=
        ⟨wr, putB_self hD, hlv, hvv, hmv, hown, cv, cm, hDs, hK.size, hK⟩
      subst e0
      clear hlv hvv hmv hown hDs hD cv cm
      have HX := Lib.hid hx; clear hx
      have HP := Lib.hid hp; clear hp
      have x0 : (0 : Int) ≤ xn := by omega
      have x1 : (xn : Int) < r.mat.length := by omega
      have p1 : (pn : Int) ≤ lcap := by omega
      have s5 := cell_blk (putB_blk w0 D #[.int .i64 r.id, .int .i64 r.count, .int .i64 r.epoch, .int .i64 r.voted, .int .i64 r.role, .slice la r.log.length lcap, .int .i64 r.conf, vv, .slice (some ⟨mb, moff, none⟩) r.mat.length mcap, tv] 77 zD) 5 (.slice la r.log.length lcap) rfl
      have s6 := cell_blk (putB_blk w0 D #[.int .i64 r.id, .int .i64 r.count, .int .i64 r.epoch, .int .i64 r.voted, .int .i64 r.role, .slice la r.log.length lcap, .int .i64 r.conf, vv, .slice (some ⟨mb, moff, none⟩) r.mat.length mcap, tv] 77 zD) 6 (.int .i64 r.conf) rfl
      have p2 : (pn : Int) ≤ r.log.length := by omega
      obtain ⟨ii, iz, t1, t2, _, t4, _⟩ := tyItems
      have hlast1 : lastF (r.log.take pn) = (logLet r xn).aep := by simp [logLet, List.getD, HP.out]
      have hen1 : ∃ en : Nat, en = min r.log.length (pn + 50) := ⟨_, rfl⟩
      obtain ⟨en, hen⟩ := hen1
      have he1 : pn ≤ en := by omega
      have he2 : en ≤ r.log.length := by omega
      obtain ⟨sa1, sc1, hsl1, hrd1⟩ := RdS.slice 28 45 ii t1 t2 t4 qlv 0 pn (Nat.zero_le _) (by omega) none (.inr ⟨rfl, rfl⟩)
      obtain ⟨sa2, sc2, hsl2, hrd2⟩ := RdS.slice 28 45 ii t1 t2 t4 qlv pn en he1 he2 (some (.int .i64 pn)) (.inl rfl)
      simp only [Nat.sub_zero, List.drop_zero] at hsl1 hrd1
      obtain ⟨its, hits⟩ : ∃ its, its = (r.log.take en).drop pn := ⟨_, rfl⟩
      rw [← hits] at hrd2
      have hbl2 : its.length ≤ 1000000000 := by rw [hits]; simp; omega
      have hmin : (min (r.log.length : Int) ((pn : Int) + 50)) = (en : Int) := by omega
      have hlet : logLet r xn = { kind := 3, src := r.id, dst := xn, ep := r.epoch, pos := pn, aep := lastF (r.log.take pn), items := its, conf := r.conf, yes := false } := by
        simp [logLet, List.getD, HP.out, hen, hits]
      have HL := Lib.hid hlet; clear hlet hlast1 hits
      have HE := Lib.hid hen; clear hen t1 t2 t4
      have hbl1 : (r.log.take pn).length ≤ 1000000000 := by simp; omega
      have hbl3 : (ls ++ (ks.take k).map (logLet r)).length ≤ 100000 := by omega
      go_wp2_with fail
      have e50 : (pn : Int) + 50 = (en : Int) := by have := HE.out; omega
      rw [e50]
      clear e50
      rotate_left
      have e51 : (r.log.length : Int) = (en : Int) := by have := HE.out; omega
      rw [e51]
      clear e51
      all_goals
        clear hmin
        go_region_held3 (fun w' => w'.cell? ⟨D, 5, none⟩ = some (.slice la r.log.length lcap) ∧ w'.cell? ⟨D, 6, none⟩ = some (.int .i64 r.conf)) (first | go_keep | (simp [go_sem, zD, z2]))
          (first | (go_at_call 41; refine (last_ok _ (r.log.take pn) (ND D Ox) _ (hrd1.kept ((Kept.refl _ _).putM (.inl rfl) _ _).drew (fun _ _ h => h)) hbl1).mono ?_; rintro e w' ⟨rfl, rfl⟩) | (go_at_call 58; refine (clone58_ok _ its (ND D Ox) _ (hrd2.kept ((Kept.refl _ _).putM (.inl rfl) _ _).drew (fun _ _ h => h)) hbl2).mono ?_; rintro e w1 ⟨ca, ccap, Oc, rfl, hoc, hnc, hkc⟩; have hkz := Nat.lt_of_lt_of_le zD (Nat.le_trans (Nat.le_of_eq (putB_size _ _ _ _).symm) hkc.size); obtain ⟨w2, e2, z2⟩ : ∃ w2, w1 = putB w2 D _ 77 ∧ D < w2.heap.size := ⟨w1, putB_self (hkc.blk (blk_drew (putB_blk _ _ _ _ zD)) (fun x => x)), hkz⟩; subst e2) | (go_at_call 40; refine (send_ok D Ox r _ _ (dd.out.kept0 (((Kept.refl NoM _).drew.trans hkc).alloc _)) ⟨3, 0, xn, 0, pn, lastF (r.log.take pn), its, r.conf, false⟩ _ _ (blk_new' _ _ _ (putB_size _ _ _ _).symm) ((hoc.rdNew hnc (dd.out.kept0 ((Kept.refl NoM _).drew)).out).kept ((Kept.refl _ _).alloc _) (fun _ _ h => h)) (fun h => (dd.out.kept0 ((Kept.refl NoM _).drew.trans hkc)).out _ (Nat.le_of_eq (putB_size _ _ _ _)) (ND.of h)) hbl3).mono ?_; rintro e w3 ⟨rfl, hst, hcs⟩; have q5 := (hcs 5 (Nat.le_of_ble_eq_true rfl)).trans (cell_blk (blk_old (putB_blk _ _ _ _ z2) _) 5 _ rfl); have q6 := (hcs 6 (Nat.le_of_ble_eq_true rfl)).trans (cell_blk (blk_old (putB_blk _ _ _ _ z2) _) 6 _ rfl); clear hcs))
        go_wp2
        obtain ⟨O3, hd3, hk3, hn3⟩ := hst
        have htk : (ks.take (k + 1)) = ks.take k ++ [(xn : Int)] := by rw [List.take_add_one, HX.out]; rfl
        have hls : ls ++ (ks.take (k + 1)).map (logLet r) = (ls ++ (ks.take k).map (logLet r)) ++ [{ kind := 3, src := r.id, dst := xn, ep := r.epoch, pos := pn, aep := lastF (r.log.take pn), items := its, conf := r.conf, yes := false }] := by
          rw [htk, List.map_append, ← List.append_assoc]; simp only [List.map_cons, List.map_nil]; rw [HL.out]
        have K0 : Kept NoM (putB w0 D _ 77) _ := ((Kept.refl NoM _).drew.trans hkc)
        have K9 := zK.trans' (((K0.alloc _).of_no (M := MD D Ox)).trans hk3 |>.onB (.inl rfl)) (MD.sub hN)
        go_roundw
        case rel => exact ⟨k + 1, by omega, by go_num, O3, by rw [hls]; exact hd3, K9, hN.trans hn3 (by have := hkc.size; simp only [World.size_drew, putB_size] at this; simp only [World.size_alloc, putB_size]; omega)⟩
        case measure => simp [intOf]; omega
    · obtain rfl : k = ks.length := by omega
      rw [List.take_length] at hdr
      go_wp2
      go_end0
      exact ⟨rfl, Ox, hdr, hK, hN⟩
end Go.Proofs.YtgohploghbimlaaDoor
