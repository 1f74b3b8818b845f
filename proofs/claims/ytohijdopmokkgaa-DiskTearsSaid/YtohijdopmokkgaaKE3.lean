/- Walks: an operation of a script, on the program's disk and on the specification's. -/
import Derived.Test.YtohijdopmokkgaaKE2
import Derived.Test.YtohijdopmokkgaaKA14
import Derived.Test.YtohijdopmokkgaaKB10
set_option linter.unusedVariables false
set_option linter.unusedSimpArgs false
set_option linter.unusedSectionVars false
namespace Go.Proofs.Ytohijdopmokkgaa
open Go.RowKit
set_option maxHeartbeats 2000000
set_option maxRecDepth 4000
section
variable {D G B : Nat} {d : Dk}
theorem rot_ok (i b : Int) (w : World) (h : PD w D G B d) : Calls Try.prog 26 #[.pointer (some ⟨D, 0, none⟩), .int .i64 i, .int .i64 b] w fun e w' => e = .returned (.int .i64 (d.rotE i b)) ∧ PD w' D G B (d.rot i b) ∧ Kept (InD D G B) w w' := by
  cases hr : d.rotok i b with
  | false => exact rot_bad i b w h hr
  | true =>
    obtain ⟨⟨h1, _⟩, h3, _⟩ := Dk.rotok_iff.1 hr
    obtain ⟨i', rfl⟩ := Int.eq_ofNat_of_zero_le h1
    obtain ⟨b', rfl⟩ := Int.eq_ofNat_of_zero_le h3
    exact rot_goes i' b' w h hr
end
section
variable {R Q : Nat} {d : Dk}
theorem rrot_ok (i b : Int) (w : World) (h : SD w R Q d) : Calls Try.prog 38 #[.pointer (some ⟨R, 0, none⟩), .int .i64 i, .int .i64 b] w fun e w' => e = .returned (.int .i64 (d.rotE i b)) ∧ SD w' R Q (d.rot i b) ∧ Kept (InS R Q) w w' := by
  cases hr : d.rotok i b with
  | false => exact rrot_bad i b w h hr
  | true =>
    obtain ⟨⟨h1, _⟩, h3, _⟩ := Dk.rotok_iff.1 hr
    obtain ⟨i', rfl⟩ := Int.eq_ofNat_of_zero_le h1
    obtain ⟨b', rfl⟩ := Int.eq_ofNat_of_zero_le h3
    exact rrot_goes i' b' w h hr
end
variable {d : Dk}
theorem do_k1 (x : Op) (a : Option Addr) (pc : Nat) (ht : x.text.length ≤ 1000) (hq : x.picks.length ≤ 1000) (hi : x.i ≤ 9223372036854775807) (D G B : Nat) (w : World) (h : PD w D G B d) (hp : RdS w (InD D G B) 1 EInt (.slice a x.picks.length pc) x.picks) (hk : x.kind = 1) :
    Calls Try.prog 13 #[.pointer (some ⟨D, 0, none⟩), .agg #[.int .i64 x.kind, .int .i64 x.i, .int .i64 x.k, strV x.text, .slice a x.picks.length pc]] w fun e w' => e = .returned (.tuple #[strV (d.doS x), .int .i64 (d.doE x)]) ∧ PD w' D G B (d.play x) ∧ Kept (InD D G B) w w' := by
  obtain ⟨kind, i, k, text, picks⟩ := x
  simp only at ht hq hi hp hk ⊢
  subst hk
  have e1 : d.doS ⟨1, i, k, text, picks⟩ = d.readS i := by simp [Dk.doS]
  have e2 : d.doE ⟨1, i, k, text, picks⟩ = d.readE i := by simp [Dk.doE]
  have e3 : d.play ⟨1, i, k, text, picks⟩ = d := by simp [Dk.play]
  have KB : ∀ o, Kept NoM w (w.alloc o) := fun o => (Kept.refl NoM w).alloc o
  have HA : Hid (∀ o, PD (w.alloc o) D G B d) := fun o => h.kept0 (KB o)
  have HRP : Hid (∀ o, RdS (w.alloc o) (InD D G B) 1 EInt (.slice a picks.length pc) picks) := fun o => hp.kept (KB o).of_no (fun _ _ x => x)
  have HKB := Lib.hid KB
  have E1 := Lib.hid e1
  have E2 := Lib.hid e2
  have E3 := Lib.hid e3
  have HT := Lib.hid ht
  have HQ := Lib.hid hq
  have HI := Lib.hid hi
  clear e1 e2 e3 h hp KB ht hq hi
  unfold strV
  go_enter Try.func13, Try.ntmps13
  go_wp2_with ((go_at_call 18; refine (read_ok _ _ (HA.out _)).mono ?_; rintro e w9 ⟨rfl, k9⟩))
  go_ret2
  refine ⟨ret_se' E1.out.symm E2.out.symm, ?_, ?_⟩
  · rw [E3.out]; exact (HA.out _).kept0 k9
  · exact ((HKB.out _).trans k9).of_no
theorem do_k2 (x : Op) (a : Option Addr) (pc : Nat) (ht : x.text.length ≤ 1000) (hq : x.picks.length ≤ 1000) (hi : x.i ≤ 9223372036854775807) (D G B : Nat) (w : World) (h : PD w D G B d) (hp : RdS w (InD D G B) 1 EInt (.slice a x.picks.length pc) x.picks) (hk : x.kind = 2) :
    Calls Try.prog 13 #[.pointer (some ⟨D, 0, none⟩), .agg #[.int .i64 x.kind, .int .i64 x.i, .int .i64 x.k, strV x.text, .slice a x.picks.length pc]] w fun e w' => e = .returned (.tuple #[strV (d.doS x), .int .i64 (d.doE x)]) ∧ PD w' D G B (d.play x) ∧ Kept (InD D G B) w w' := by
  obtain ⟨kind, i, k, text, picks⟩ := x
  simp only at ht hq hi hp hk ⊢
  subst hk
  have e1 : d.doS ⟨2, i, k, text, picks⟩ = [] := by simp [Dk.doS]
  have e2 : d.doE ⟨2, i, k, text, picks⟩ = d.writeE i k text := by simp [Dk.doE]
  have e3 : d.play ⟨2, i, k, text, picks⟩ = d.write i k text := by simp [Dk.play]
  have KB : ∀ o, Kept NoM w (w.alloc o) := fun o => (Kept.refl NoM w).alloc o
  have HA : Hid (∀ o, PD (w.alloc o) D G B d) := fun o => h.kept0 (KB o)
  have HRP : Hid (∀ o, RdS (w.alloc o) (InD D G B) 1 EInt (.slice a picks.length pc) picks) := fun o => hp.kept (KB o).of_no (fun _ _ x => x)
  have HKB := Lib.hid KB
  have E1 := Lib.hid e1
  have E2 := Lib.hid e2
  have E3 := Lib.hid e3
  have HT := Lib.hid ht
  have HQ := Lib.hid hq
  have HI := Lib.hid hi
  clear e1 e2 e3 h hp KB ht hq hi
  unfold strV
  go_enter Try.func13, Try.ntmps13
  go_wp2_with ((go_at_call 21; refine (write_ok _ _ text (by have := HT.out; omega) _ (HA.out _)).mono ?_; rintro e w9 ⟨rfl, p9, k9⟩))
  go_ret2
  refine ⟨ret_se' E1.out.symm E2.out.symm, ?_, ?_⟩
  · rw [E3.out]; exact p9
  · exact (HKB.out _).of_no.trans k9
theorem do_k3 (x : Op) (a : Option Addr) (pc : Nat) (ht : x.text.length ≤ 1000) (hq : x.picks.length ≤ 1000) (hi : x.i ≤ 9223372036854775807) (D G B : Nat) (w : World) (h : PD w D G B d) (hp : RdS w (InD D G B) 1 EInt (.slice a x.picks.length pc) x.picks) (hk : x.kind = 3) :
    Calls Try.prog 13 #[.pointer (some ⟨D, 0, none⟩), .agg #[.int .i64 x.kind, .int .i64 x.i, .int .i64 x.k, strV x.text, .slice a x.picks.length pc]] w fun e w' => e = .returned (.tuple #[strV (d.doS x), .int .i64 (d.doE x)]) ∧ PD w' D G B (d.play x) ∧ Kept (InD D G B) w w' := by
  obtain ⟨kind, i, k, text, picks⟩ := x
  simp only at ht hq hi hp hk ⊢
  subst hk
  have e1 : d.doS ⟨3, i, k, text, picks⟩ = [] := by simp [Dk.doS]
  have e2 : d.doE ⟨3, i, k, text, picks⟩ = d.flushE := by simp [Dk.doE]
  have e3 : d.play ⟨3, i, k, text, picks⟩ = d.flush := by simp [Dk.play]
  have KB : ∀ o, Kept NoM w (w.alloc o) := fun o => (Kept.refl NoM w).alloc o
  have HA : Hid (∀ o, PD (w.alloc o) D G B d) := fun o => h.kept0 (KB o)
  have HRP : Hid (∀ o, RdS (w.alloc o) (InD D G B) 1 EInt (.slice a picks.length pc) picks) := fun o => hp.kept (KB o).of_no (fun _ _ x => x)
  have HKB := Lib.hid KB
  have E1 := Lib.hid e1
  have E2 := Lib.hid e2
  have E3 := Lib.hid e3
  have HT := Lib.hid ht
  have HQ := Lib.hid hq
  have HI := Lib.hid hi
  clear e1 e2 e3 h hp KB ht hq hi
  unfold strV
  go_enter Try.func13, Try.ntmps13
  go_wp2_with ((go_at_call 19; refine (flush_ok _ (HA.out _)).mono ?_; rintro e w9 ⟨rfl, p9, k9⟩))
  go_ret2
  refine ⟨ret_se' E1.out.symm E2.out.symm, ?_, ?_⟩
  · rw [E3.out]; exact p9
  · exact (HKB.out _).of_no.trans k9
theorem do_k4 (x : Op) (a : Option Addr) (pc : Nat) (ht : x.text.length ≤ 1000) (hq : x.picks.length ≤ 1000) (hi : x.i ≤ 9223372036854775807) (D G B : Nat) (w : World) (h : PD w D G B d) (hp : RdS w (InD D G B) 1 EInt (.slice a x.picks.length pc) x.picks) (hk : x.kind = 4) :
    Calls Try.prog 13 #[.pointer (some ⟨D, 0, none⟩), .agg #[.int .i64 x.kind, .int .i64 x.i, .int .i64 x.k, strV x.text, .slice a x.picks.length pc]] w fun e w' => e = .returned (.tuple #[strV (d.doS x), .int .i64 (d.doE x)]) ∧ PD w' D G B (d.play x) ∧ Kept (InD D G B) w w' := by
  obtain ⟨kind, i, k, text, picks⟩ := x
  simp only at ht hq hi hp hk ⊢
  subst hk
  have e1 : d.doS ⟨4, i, k, text, picks⟩ = [] := by simp [Dk.doS]
  have e2 : d.doE ⟨4, i, k, text, picks⟩ = 0 := by simp [Dk.doE]
  have e3 : d.play ⟨4, i, k, text, picks⟩ = d.doTrip i := by simp [Dk.play]
  have KB : ∀ o, Kept NoM w (w.alloc o) := fun o => (Kept.refl NoM w).alloc o
  have HA : Hid (∀ o, PD (w.alloc o) D G B d) := fun o => h.kept0 (KB o)
  have HRP : Hid (∀ o, RdS (w.alloc o) (InD D G B) 1 EInt (.slice a picks.length pc) picks) := fun o => hp.kept (KB o).of_no (fun _ _ x => x)
  have HKB := Lib.hid KB
  have E1 := Lib.hid e1
  have E2 := Lib.hid e2
  have E3 := Lib.hid e3
  have HT := Lib.hid ht
  have HQ := Lib.hid hq
  have HI := Lib.hid hi
  clear e1 e2 e3 h hp KB ht hq hi
  unfold strV
  go_enter Try.func13, Try.ntmps13
  go_wp2_with ((go_at_call 17; refine (trip_ok _ HI.out _ (HA.out _)).mono ?_; rintro e w9 ⟨rfl, p9, k9⟩))
  go_ret2
  refine ⟨ret_se' E1.out.symm E2.out.symm, ?_, ?_⟩
  · rw [E3.out]; exact p9
  · exact (HKB.out _).of_no.trans k9
theorem do_k5 (x : Op) (a : Option Addr) (pc : Nat) (ht : x.text.length ≤ 1000) (hq : x.picks.length ≤ 1000) (hi : x.i ≤ 9223372036854775807) (D G B : Nat) (w : World) (h : PD w D G B d) (hp : RdS w (InD D G B) 1 EInt (.slice a x.picks.length pc) x.picks) (hk : x.kind = 5) :
    Calls Try.prog 13 #[.pointer (some ⟨D, 0, none⟩), .agg #[.int .i64 x.kind, .int .i64 x.i, .int .i64 x.k, strV x.text, .slice a x.picks.length pc]] w fun e w' => e = .returned (.tuple #[strV (d.doS x), .int .i64 (d.doE x)]) ∧ PD w' D G B (d.play x) ∧ Kept (InD D G B) w w' := by
  obtain ⟨kind, i, k, text, picks⟩ := x
  simp only at ht hq hi hp hk ⊢
  subst hk
  have e1 : d.doS ⟨5, i, k, text, picks⟩ = [] := by simp [Dk.doS]
  have e2 : d.doE ⟨5, i, k, text, picks⟩ = 0 := by simp [Dk.doE]
  have e3 : d.play ⟨5, i, k, text, picks⟩ = d.mount picks := by simp [Dk.play]
  have KB : ∀ o, Kept NoM w (w.alloc o) := fun o => (Kept.refl NoM w).alloc o
  have HA : Hid (∀ o, PD (w.alloc o) D G B d) := fun o => h.kept0 (KB o)
  have HRP : Hid (∀ o, RdS (w.alloc o) (InD D G B) 1 EInt (.slice a picks.length pc) picks) := fun o => hp.kept (KB o).of_no (fun _ _ x => x)
  have HKB := Lib.hid KB
  have E1 := Lib.hid e1
  have E2 := Lib.hid e2
  have E3 := Lib.hid e3
  have HT := Lib.hid ht
  have HQ := Lib.hid hq
  have HI := Lib.hid hi
  clear e1 e2 e3 h hp KB ht hq hi
  unfold strV
  go_enter Try.func13, Try.ntmps13
  go_wp2_with ((go_at_call 22; refine (mount_ok picks a pc HQ.out _ (HA.out _) (HRP.out _)).mono ?_; rintro e w9 ⟨rfl, p9, k9⟩))
  go_ret2
  refine ⟨ret_se' E1.out.symm E2.out.symm, ?_, ?_⟩
  · rw [E3.out]; exact p9
  · exact (HKB.out _).of_no.trans k9
theorem do_k6 (x : Op) (a : Option Addr) (pc : Nat) (ht : x.text.length ≤ 1000) (hq : x.picks.length ≤ 1000) (hi : x.i ≤ 9223372036854775807) (D G B : Nat) (w : World) (h : PD w D G B d) (hp : RdS w (InD D G B) 1 EInt (.slice a x.picks.length pc) x.picks) (hk : x.kind = 6) :
    Calls Try.prog 13 #[.pointer (some ⟨D, 0, none⟩), .agg #[.int .i64 x.kind, .int .i64 x.i, .int .i64 x.k, strV x.text, .slice a x.picks.length pc]] w fun e w' => e = .returned (.tuple #[strV (d.doS x), .int .i64 (d.doE x)]) ∧ PD w' D G B (d.play x) ∧ Kept (InD D G B) w w' := by
  obtain ⟨kind, i, k, text, picks⟩ := x
  simp only at ht hq hi hp hk ⊢
  subst hk
  have e1 : d.doS ⟨6, i, k, text, picks⟩ = [] := by simp [Dk.doS]
  have e2 : d.doE ⟨6, i, k, text, picks⟩ = d.rotE i k := by simp [Dk.doE]
  have e3 : d.play ⟨6, i, k, text, picks⟩ = d.rot i k := by simp [Dk.play]
  have KB : ∀ o, Kept NoM w (w.alloc o) := fun o => (Kept.refl NoM w).alloc o
  have HA : Hid (∀ o, PD (w.alloc o) D G B d) := fun o => h.kept0 (KB o)
  have HRP : Hid (∀ o, RdS (w.alloc o) (InD D G B) 1 EInt (.slice a picks.length pc) picks) := fun o => hp.kept (KB o).of_no (fun _ _ x => x)
  have HKB := Lib.hid KB
  have E1 := Lib.hid e1
  have E2 := Lib.hid e2
  have E3 := Lib.hid e3
  have HT := Lib.hid ht
  have HQ := Lib.hid hq
  have HI := Lib.hid hi
  clear e1 e2 e3 h hp KB ht hq hi
  unfold strV
  go_enter Try.func13, Try.ntmps13
  go_wp2_with ((go_at_call 26; refine (rot_ok _ _ _ (HA.out _)).mono ?_; rintro e w9 ⟨rfl, p9, k9⟩))
  go_ret2
  refine ⟨ret_se' E1.out.symm E2.out.symm, ?_, ?_⟩
  · rw [E3.out]; exact p9
  · exact (HKB.out _).of_no.trans k9
theorem do_no (x : Op) (a : Option Addr) (pc : Nat) (ht : x.text.length ≤ 1000) (hq : x.picks.length ≤ 1000) (hi : x.i ≤ 9223372036854775807) (D G B : Nat) (w : World) (h : PD w D G B d) (hp : RdS w (InD D G B) 1 EInt (.slice a x.picks.length pc) x.picks) (hk : x.kind < 1 ∨ 6 < x.kind) :
    Calls Try.prog 13 #[.pointer (some ⟨D, 0, none⟩), .agg #[.int .i64 x.kind, .int .i64 x.i, .int .i64 x.k, strV x.text, .slice a x.picks.length pc]] w fun e w' => e = .returned (.tuple #[strV (d.doS x), .int .i64 (d.doE x)]) ∧ PD w' D G B (d.play x) ∧ Kept (InD D G B) w w' := by
  obtain ⟨kind, i, k, text, picks⟩ := x
  simp only at ht hq hi hp hk ⊢
  have t1 : (kind == 1) = false := by simp; omega
  have t2 : (kind == 2) = false := by simp; omega
  have t3 : (kind == 3) = false := by simp; omega
  have t4 : (kind == 4) = false := by simp; omega
  have t5 : (kind == 5) = false := by simp; omega
  have t6 : (kind == 6) = false := by simp; omega
  have g1 : ¬ kind = 1 := by omega
  have g2 : ¬ kind = 2 := by omega
  have g3 : ¬ kind = 3 := by omega
  have g4 : ¬ kind = 4 := by omega
  have g5 : ¬ kind = 5 := by omega
  have g6 : ¬ kind = 6 := by omega
  have e1 : d.doS ⟨kind, i, k, text, picks⟩ = [] := by simp [Dk.doS, g1]
  have e2 : d.doE ⟨kind, i, k, text, picks⟩ = 0 := by simp [Dk.doE, g1, g2, g3, g6]
  have e3 : d.play ⟨kind, i, k, text, picks⟩ = d := by simp [Dk.play, g2, g3, g4, g5, g6]
  clear g1 g2 g3 g4 g5 g6 hk
  have KB : ∀ o, Kept NoM w (w.alloc o) := fun o => (Kept.refl NoM w).alloc o
  have HA : Hid (∀ o, PD (w.alloc o) D G B d) := fun o => h.kept0 (KB o)
  have HRP : Hid (∀ o, RdS (w.alloc o) (InD D G B) 1 EInt (.slice a picks.length pc) picks) := fun o => hp.kept (KB o).of_no (fun _ _ x => x)
  have HKB := Lib.hid KB
  have E1 := Lib.hid e1
  have E2 := Lib.hid e2
  have E3 := Lib.hid e3
  have HT := Lib.hid ht
  have HQ := Lib.hid hq
  have HI := Lib.hid hi
  clear e1 e2 e3 h hp KB ht hq hi
  unfold strV
  go_enter Try.func13, Try.ntmps13
  go_wp2_with (fail)
  go_ret2
  refine ⟨ret_se' E1.out.symm E2.out.symm, ?_, ?_⟩
  · rw [E3.out]; exact HA.out _
  · exact (HKB.out _).of_no
theorem do_ok (x : Op) (a : Option Addr) (pc : Nat) (ht : x.text.length ≤ 1000) (hq : x.picks.length ≤ 1000) (hi : x.i ≤ 9223372036854775807) (D G B : Nat) (w : World) (h : PD w D G B d) (hp : RdS w (InD D G B) 1 EInt (.slice a x.picks.length pc) x.picks) :
    Calls Try.prog 13 #[.pointer (some ⟨D, 0, none⟩), .agg #[.int .i64 x.kind, .int .i64 x.i, .int .i64 x.k, strV x.text, .slice a x.picks.length pc]] w fun e w' => e = .returned (.tuple #[strV (d.doS x), .int .i64 (d.doE x)]) ∧ PD w' D G B (d.play x) ∧ Kept (InD D G B) w w' := by
  by_cases hk : x.kind < 1 ∨ 6 < x.kind
  · exact do_no x a pc ht hq hi D G B w h hp hk
  · have : x.kind = 1 ∨ x.kind = 2 ∨ x.kind = 3 ∨ x.kind = 4 ∨ x.kind = 5 ∨ x.kind = 6 := by omega
    rcases this with hk | hk | hk | hk | hk | hk
    · exact do_k1 x a pc ht hq hi D G B w h hp hk
    · exact do_k2 x a pc ht hq hi D G B w h hp hk
    · exact do_k3 x a pc ht hq hi D G B w h hp hk
    · exact do_k4 x a pc ht hq hi D G B w h hp hk
    · exact do_k5 x a pc ht hq hi D G B w h hp hk
    · exact do_k6 x a pc ht hq hi D G B w h hp hk
theorem rdo_k1 (x : Op) (a : Option Addr) (pc : Nat) (ht : x.text.length ≤ 1000) (hq : x.picks.length ≤ 1000) (hi : x.i ≤ 9223372036854775807) (R Q : Nat) (w : World) (h : SD w R Q d) (hp : RdS w (InS R Q) 1 EInt (.slice a x.picks.length pc) x.picks) (hk : x.kind = 1) :
    Calls Try.prog 14 #[.pointer (some ⟨R, 0, none⟩), .agg #[.int .i64 x.kind, .int .i64 x.i, .int .i64 x.k, strV x.text, .slice a x.picks.length pc]] w fun e w' => e = .returned (.tuple #[strV (d.doS x), .int .i64 (d.doE x)]) ∧ SD w' R Q (d.play x) ∧ Kept (InS R Q) w w' := by
  obtain ⟨kind, i, k, text, picks⟩ := x
  simp only at ht hq hi hp hk ⊢
  subst hk
  have e1 : d.doS ⟨1, i, k, text, picks⟩ = d.readS i := by simp [Dk.doS]
  have e2 : d.doE ⟨1, i, k, text, picks⟩ = d.readE i := by simp [Dk.doE]
  have e3 : d.play ⟨1, i, k, text, picks⟩ = d := by simp [Dk.play]
  have KB : ∀ o, Kept NoM w (w.alloc o) := fun o => (Kept.refl NoM w).alloc o
  have HA : Hid (∀ o, SD (w.alloc o) R Q d) := fun o => h.kept0 (KB o)
  have HRP : Hid (∀ o, RdS (w.alloc o) (InS R Q) 1 EInt (.slice a picks.length pc) picks) := fun o => hp.kept (KB o).of_no (fun _ _ x => x)
  have HKB := Lib.hid KB
  have E1 := Lib.hid e1
  have E2 := Lib.hid e2
  have E3 := Lib.hid e3
  have HT := Lib.hid ht
  have HQ := Lib.hid hq
  have HI := Lib.hid hi
  clear e1 e2 e3 h hp KB ht hq hi
  unfold strV
  go_enter Try.func14, Try.ntmps14
  go_wp2_with ((go_at_call 33; refine (rread_ok _ _ (HA.out _)).mono ?_; rintro e w9 ⟨rfl, rfl⟩))
  go_ret2
  refine ⟨ret_se' E1.out.symm E2.out.symm, ?_, ?_⟩
  · rw [E3.out]; exact HA.out _
  · exact (HKB.out _).of_no
theorem rdo_k2 (x : Op) (a : Option Addr) (pc : Nat) (ht : x.text.length ≤ 1000) (hq : x.picks.length ≤ 1000) (hi : x.i ≤ 9223372036854775807) (R Q : Nat) (w : World) (h : SD w R Q d) (hp : RdS w (InS R Q) 1 EInt (.slice a x.picks.length pc) x.picks) (hk : x.kind = 2) :
    Calls Try.prog 14 #[.pointer (some ⟨R, 0, none⟩), .agg #[.int .i64 x.kind, .int .i64 x.i, .int .i64 x.k, strV x.text, .slice a x.picks.length pc]] w fun e w' => e = .returned (.tuple #[strV (d.doS x), .int .i64 (d.doE x)]) ∧ SD w' R Q (d.play x) ∧ Kept (InS R Q) w w' := by
  obtain ⟨kind, i, k, text, picks⟩ := x
  simp only at ht hq hi hp hk ⊢
  subst hk
  have e1 : d.doS ⟨2, i, k, text, picks⟩ = [] := by simp [Dk.doS]
  have e2 : d.doE ⟨2, i, k, text, picks⟩ = d.writeE i k text := by simp [Dk.doE]
  have e3 : d.play ⟨2, i, k, text, picks⟩ = d.write i k text := by simp [Dk.play]
  have KB : ∀ o, Kept NoM w (w.alloc o) := fun o => (Kept.refl NoM w).alloc o
  have HA : Hid (∀ o, SD (w.alloc o) R Q d) := fun o => h.kept0 (KB o)
  have HRP : Hid (∀ o, RdS (w.alloc o) (InS R Q) 1 EInt (.slice a picks.length pc) picks) := fun o => hp.kept (KB o).of_no (fun _ _ x => x)
  have HKB := Lib.hid KB
  have E1 := Lib.hid e1
  have E2 := Lib.hid e2
  have E3 := Lib.hid e3
  have HT := Lib.hid ht
  have HQ := Lib.hid hq
  have HI := Lib.hid hi
  clear e1 e2 e3 h hp KB ht hq hi
  unfold strV
  go_enter Try.func14, Try.ntmps14
  go_wp2_with ((go_at_call 34; refine (rwrite_ok _ _ text (by have := HT.out; omega) _ (HA.out _)).mono ?_; rintro e w9 ⟨rfl, p9, k9⟩))
  go_ret2
  refine ⟨ret_se' E1.out.symm E2.out.symm, ?_, ?_⟩
  · rw [E3.out]; exact p9
  · exact (HKB.out _).of_no.trans k9
theorem rdo_k3 (x : Op) (a : Option Addr) (pc : Nat) (ht : x.text.length ≤ 1000) (hq : x.picks.length ≤ 1000) (hi : x.i ≤ 9223372036854775807) (R Q : Nat) (w : World) (h : SD w R Q d) (hp : RdS w (InS R Q) 1 EInt (.slice a x.picks.length pc) x.picks) (hk : x.kind = 3) :
    Calls Try.prog 14 #[.pointer (some ⟨R, 0, none⟩), .agg #[.int .i64 x.kind, .int .i64 x.i, .int .i64 x.k, strV x.text, .slice a x.picks.length pc]] w fun e w' => e = .returned (.tuple #[strV (d.doS x), .int .i64 (d.doE x)]) ∧ SD w' R Q (d.play x) ∧ Kept (InS R Q) w w' := by
  obtain ⟨kind, i, k, text, picks⟩ := x
  simp only at ht hq hi hp hk ⊢
  subst hk
  have e1 : d.doS ⟨3, i, k, text, picks⟩ = [] := by simp [Dk.doS]
  have e2 : d.doE ⟨3, i, k, text, picks⟩ = d.flushE := by simp [Dk.doE]
  have e3 : d.play ⟨3, i, k, text, picks⟩ = d.flush := by simp [Dk.play]
  have KB : ∀ o, Kept NoM w (w.alloc o) := fun o => (Kept.refl NoM w).alloc o
  have HA : Hid (∀ o, SD (w.alloc o) R Q d) := fun o => h.kept0 (KB o)
  have HRP : Hid (∀ o, RdS (w.alloc o) (InS R Q) 1 EInt (.slice a picks.length pc) picks) := fun o => hp.kept (KB o).of_no (fun _ _ x => x)
  have HKB := Lib.hid KB
  have E1 := Lib.hid e1
  have E2 := Lib.hid e2
  have E3 := Lib.hid e3
  have HT := Lib.hid ht
  have HQ := Lib.hid hq
  have HI := Lib.hid hi
  clear e1 e2 e3 h hp KB ht hq hi
  unfold strV
  go_enter Try.func14, Try.ntmps14
  go_wp2_with ((go_at_call 35; refine (rflush_ok _ (HA.out _)).mono ?_; rintro e w9 ⟨rfl, p9, k9⟩))
  go_ret2
  refine ⟨ret_se' E1.out.symm E2.out.symm, ?_, ?_⟩
  · rw [E3.out]; exact p9
  · exact (HKB.out _).of_no.trans k9
theorem rdo_k4 (x : Op) (a : Option Addr) (pc : Nat) (ht : x.text.length ≤ 1000) (hq : x.picks.length ≤ 1000) (hi : x.i ≤ 9223372036854775807) (R Q : Nat) (w : World) (h : SD w R Q d) (hp : RdS w (InS R Q) 1 EInt (.slice a x.picks.length pc) x.picks) (hk : x.kind = 4) :
    Calls Try.prog 14 #[.pointer (some ⟨R, 0, none⟩), .agg #[.int .i64 x.kind, .int .i64 x.i, .int .i64 x.k, strV x.text, .slice a x.picks.length pc]] w fun e w' => e = .returned (.tuple #[strV (d.doS x), .int .i64 (d.doE x)]) ∧ SD w' R Q (d.play x) ∧ Kept (InS R Q) w w' := by
  obtain ⟨kind, i, k, text, picks⟩ := x
  simp only at ht hq hi hp hk ⊢
  subst hk
  have e1 : d.doS ⟨4, i, k, text, picks⟩ = [] := by simp [Dk.doS]
  have e2 : d.doE ⟨4, i, k, text, picks⟩ = 0 := by simp [Dk.doE]
  have e3 : d.play ⟨4, i, k, text, picks⟩ = d.doTrip i := by simp [Dk.play]
  have KB : ∀ o, Kept NoM w (w.alloc o) := fun o => (Kept.refl NoM w).alloc o
  have HA : Hid (∀ o, SD (w.alloc o) R Q d) := fun o => h.kept0 (KB o)
  have HRP : Hid (∀ o, RdS (w.alloc o) (InS R Q) 1 EInt (.slice a picks.length pc) picks) := fun o => hp.kept (KB o).of_no (fun _ _ x => x)
  have HKB := Lib.hid KB
  have E1 := Lib.hid e1
  have E2 := Lib.hid e2
  have E3 := Lib.hid e3
  have HT := Lib.hid ht
  have HQ := Lib.hid hq
  have HI := Lib.hid hi
  clear e1 e2 e3 h hp KB ht hq hi
  unfold strV
  go_enter Try.func14, Try.ntmps14
  go_wp2_with ((go_at_call 36; refine (rtrip_ok _ HI.out _ (HA.out _)).mono ?_; rintro e w9 ⟨rfl, p9, k9⟩))
  go_ret2
  refine ⟨ret_se' E1.out.symm E2.out.symm, ?_, ?_⟩
  · rw [E3.out]; exact p9
  · exact (HKB.out _).of_no.trans k9
theorem rdo_k5 (x : Op) (a : Option Addr) (pc : Nat) (ht : x.text.length ≤ 1000) (hq : x.picks.length ≤ 1000) (hi : x.i ≤ 9223372036854775807) (R Q : Nat) (w : World) (h : SD w R Q d) (hp : RdS w (InS R Q) 1 EInt (.slice a x.picks.length pc) x.picks) (hk : x.kind = 5) :
    Calls Try.prog 14 #[.pointer (some ⟨R, 0, none⟩), .agg #[.int .i64 x.kind, .int .i64 x.i, .int .i64 x.k, strV x.text, .slice a x.picks.length pc]] w fun e w' => e = .returned (.tuple #[strV (d.doS x), .int .i64 (d.doE x)]) ∧ SD w' R Q (d.play x) ∧ Kept (InS R Q) w w' := by
  obtain ⟨kind, i, k, text, picks⟩ := x
  simp only at ht hq hi hp hk ⊢
  subst hk
  have e1 : d.doS ⟨5, i, k, text, picks⟩ = [] := by simp [Dk.doS]
  have e2 : d.doE ⟨5, i, k, text, picks⟩ = 0 := by simp [Dk.doE]
  have e3 : d.play ⟨5, i, k, text, picks⟩ = d.mount picks := by simp [Dk.play]
  have KB : ∀ o, Kept NoM w (w.alloc o) := fun o => (Kept.refl NoM w).alloc o
  have HA : Hid (∀ o, SD (w.alloc o) R Q d) := fun o => h.kept0 (KB o)
  have HRP : Hid (∀ o, RdS (w.alloc o) (InS R Q) 1 EInt (.slice a picks.length pc) picks) := fun o => hp.kept (KB o).of_no (fun _ _ x => x)
  have HKB := Lib.hid KB
  have E1 := Lib.hid e1
  have E2 := Lib.hid e2
  have E3 := Lib.hid e3
  have HT := Lib.hid ht
  have HQ := Lib.hid hq
  have HI := Lib.hid hi
  clear e1 e2 e3 h hp KB ht hq hi
  unfold strV
  go_enter Try.func14, Try.ntmps14
  go_wp2_with ((go_at_call 37; refine (rmount_ok picks a pc HQ.out _ (HA.out _) (HRP.out _)).mono ?_; rintro e w9 ⟨rfl, p9, k9⟩))
  go_ret2
  refine ⟨ret_se' E1.out.symm E2.out.symm, ?_, ?_⟩
  · rw [E3.out]; exact p9
  · exact (HKB.out _).of_no.trans k9
theorem rdo_k6 (x : Op) (a : Option Addr) (pc : Nat) (ht : x.text.length ≤ 1000) (hq : x.picks.length ≤ 1000) (hi : x.i ≤ 9223372036854775807) (R Q : Nat) (w : World) (h : SD w R Q d) (hp : RdS w (InS R Q) 1 EInt (.slice a x.picks.length pc) x.picks) (hk : x.kind = 6) :
    Calls Try.prog 14 #[.pointer (some ⟨R, 0, none⟩), .agg #[.int .i64 x.kind, .int .i64 x.i, .int .i64 x.k, strV x.text, .slice a x.picks.length pc]] w fun e w' => e = .returned (.tuple #[strV (d.doS x), .int .i64 (d.doE x)]) ∧ SD w' R Q (d.play x) ∧ Kept (InS R Q) w w' := by
  obtain ⟨kind, i, k, text, picks⟩ := x
  simp only at ht hq hi hp hk ⊢
  subst hk
  have e1 : d.doS ⟨6, i, k, text, picks⟩ = [] := by simp [Dk.doS]
  have e2 : d.doE ⟨6, i, k, text, picks⟩ = d.rotE i k := by simp [Dk.doE]
  have e3 : d.play ⟨6, i, k, text, picks⟩ = d.rot i k := by simp [Dk.play]
  have KB : ∀ o, Kept NoM w (w.alloc o) := fun o => (Kept.refl NoM w).alloc o
  have HA : Hid (∀ o, SD (w.alloc o) R Q d) := fun o => h.kept0 (KB o)
  have HRP : Hid (∀ o, RdS (w.alloc o) (InS R Q) 1 EInt (.slice a picks.length pc) picks) := fun o => hp.kept (KB o).of_no (fun _ _ x => x)
  have HKB := Lib.hid KB
  have E1 := Lib.hid e1
  have E2 := Lib.hid e2
  have E3 := Lib.hid e3
  have HT := Lib.hid ht
  have HQ := Lib.hid hq
  have HI := Lib.hid hi
  clear e1 e2 e3 h hp KB ht hq hi
  unfold strV
  go_enter Try.func14, Try.ntmps14
  go_wp2_with ((go_at_call 38; refine (rrot_ok _ _ _ (HA.out _)).mono ?_; rintro e w9 ⟨rfl, p9, k9⟩))
  go_ret2
  refine ⟨ret_se' E1.out.symm E2.out.symm, ?_, ?_⟩
  · rw [E3.out]; exact p9
  · exact (HKB.out _).of_no.trans k9
theorem rdo_no (x : Op) (a : Option Addr) (pc : Nat) (ht : x.text.length ≤ 1000) (hq : x.picks.length ≤ 1000) (hi : x.i ≤ 9223372036854775807) (R Q : Nat) (w : World) (h : SD w R Q d) (hp : RdS w (InS R Q) 1 EInt (.slice a x.picks.length pc) x.picks) (hk : x.kind < 1 ∨ 6 < x.kind) :
    Calls Try.prog 14 #[.pointer (some ⟨R, 0, none⟩), .agg #[.int .i64 x.kind, .int .i64 x.i, .int .i64 x.k, strV x.text, .slice a x.picks.length pc]] w fun e w' => e = .returned (.tuple #[strV (d.doS x), .int .i64 (d.doE x)]) ∧ SD w' R Q (d.play x) ∧ Kept (InS R Q) w w' := by
  obtain ⟨kind, i, k, text, picks⟩ := x
  simp only at ht hq hi hp hk ⊢
  have t1 : (kind == 1) = false := by simp; omega
  have t2 : (kind == 2) = false := by simp; omega
  have t3 : (kind == 3) = false := by simp; omega
  have t4 : (kind == 4) = false := by simp; omega
  have t5 : (kind == 5) = false := by simp; omega
  have t6 : (kind == 6) = false := by simp; omega
  have g1 : ¬ kind = 1 := by omega
  have g2 : ¬ kind = 2 := by omega
  have g3 : ¬ kind = 3 := by omega
  have g4 : ¬ kind = 4 := by omega
  have g5 : ¬ kind = 5 := by omega
  have g6 : ¬ kind = 6 := by omega
  have e1 : d.doS ⟨kind, i, k, text, picks⟩ = [] := by simp [Dk.doS, g1]
  have e2 : d.doE ⟨kind, i, k, text, picks⟩ = 0 := by simp [Dk.doE, g1, g2, g3, g6]
  have e3 : d.play ⟨kind, i, k, text, picks⟩ = d := by simp [Dk.play, g2, g3, g4, g5, g6]
  clear g1 g2 g3 g4 g5 g6 hk
  have KB : ∀ o, Kept NoM w (w.alloc o) := fun o => (Kept.refl NoM w).alloc o
  have HA : Hid (∀ o, SD (w.alloc o) R Q d) := fun o => h.kept0 (KB o)
  have HRP : Hid (∀ o, RdS (w.alloc o) (InS R Q) 1 EInt (.slice a picks.length pc) picks) := fun o => hp.kept (KB o).of_no (fun _ _ x => x)
  have HKB := Lib.hid KB
  have E1 := Lib.hid e1
  have E2 := Lib.hid e2
  have E3 := Lib.hid e3
  have HT := Lib.hid ht
  have HQ := Lib.hid hq
  have HI := Lib.hid hi
  clear e1 e2 e3 h hp KB ht hq hi
  unfold strV
  go_enter Try.func14, Try.ntmps14
  go_wp2_with (fail)
  go_ret2
  refine ⟨ret_se' E1.out.symm E2.out.symm, ?_, ?_⟩
  · rw [E3.out]; exact HA.out _
  · exact (HKB.out _).of_no
theorem rdo_ok (x : Op) (a : Option Addr) (pc : Nat) (ht : x.text.length ≤ 1000) (hq : x.picks.length ≤ 1000) (hi : x.i ≤ 9223372036854775807) (R Q : Nat) (w : World) (h : SD w R Q d) (hp : RdS w (InS R Q) 1 EInt (.slice a x.picks.length pc) x.picks) :
    Calls Try.prog 14 #[.pointer (some ⟨R, 0, none⟩), .agg #[.int .i64 x.kind, .int .i64 x.i, .int .i64 x.k, strV x.text, .slice a x.picks.length pc]] w fun e w' => e = .returned (.tuple #[strV (d.doS x), .int .i64 (d.doE x)]) ∧ SD w' R Q (d.play x) ∧ Kept (InS R Q) w w' := by
  by_cases hk : x.kind < 1 ∨ 6 < x.kind
  · exact rdo_no x a pc ht hq hi R Q w h hp hk
  · have : x.kind = 1 ∨ x.kind = 2 ∨ x.kind = 3 ∨ x.kind = 4 ∨ x.kind = 5 ∨ x.kind = 6 := by omega
    rcases this with hk | hk | hk | hk | hk | hk
    · exact rdo_k1 x a pc ht hq hi R Q w h hp hk
    · exact rdo_k2 x a pc ht hq hi R Q w h hp hk
    · exact rdo_k3 x a pc ht hq hi R Q w h hp hk
    · exact rdo_k4 x a pc ht hq hi R Q w h hp hk
    · exact rdo_k5 x a pc ht hq hi R Q w h hp hk
    · exact rdo_k6 x a pc ht hq hi R Q w h hp hk
end Go.Proofs.Ytohijdopmokkgaa
