/- Walks: Rot of the program's disk. -/
import Derived.Test.YtjcmnobfdidnkaaKA13
import Derived.IntWalk
set_option linter.unusedVariables false
set_option linter.unusedSimpArgs false
set_option linter.unusedSectionVars false
namespace Go.Proofs.Ytjcmnobfdidnkaa
open Go.RowKit
set_option maxHeartbeats 2000000
set_option maxRecDepth 100000
variable {D G B : Nat} {d : Dk}
/-- a bit of a byte: the shift -/
theorem run_shl8 {P : Program} (m : Nat) (hm : m < 8) (wx : World) : (Op.shift .shl .u8 1 .i64 (m : Int)).run P wx = .ok (.int .u8 (((1 : UInt8) <<< UInt8.ofNat m).toNat : Nat)) wx := by
  have h : m = 0 ∨ m = 1 ∨ m = 2 ∨ m = 3 ∨ m = 4 ∨ m = 5 ∨ m = 6 ∨ m = 7 := by omega
  rcases h with rfl | rfl | rfl | rfl | rfl | rfl | rfl | rfl <;> rfl
theorem run_bit {P : Program} (b : Nat) (wx : World) : (Op.shift .shl .u8 1 .i64 ((b : Int).tmod 8)).run P wx = .ok (.int .u8 (((1 : UInt8) <<< UInt8.ofNat (b % 8)).toNat : Nat)) wx := by
  have e : (b : Int).tmod 8 = ((b % 8 : Nat) : Int) := by rw [Int.tmod_eq_emod_of_nonneg (by omega)]; omega
  rw [e]
  exact run_shl8 _ (Nat.mod_lt _ (by omega)) wx
theorem bits_all : ∀ x : Fin 256, ∀ m : Fin 8, bits BinOp.xor IntKind.u8 ((UInt8.ofNat x.val).toNat : Int) ((1 : Int) <<< m.val % 256) = (((UInt8.ofNat x.val) ^^^ ((1 : UInt8) <<< UInt8.ofNat m.val)).toNat : Int) := by decide +kernel
theorem bits_byte (x : UInt8) (m : Nat) (hm : m < 8) : bits BinOp.xor IntKind.u8 (x.toNat : Int) ((1 : Int) <<< m % 256) = ((x ^^^ ((1 : UInt8) <<< UInt8.ofNat m)).toNat : Int) := by
  have := bits_all ⟨x.toNat, x.toNat_lt⟩ ⟨m, hm⟩
  simpa using this
theorem splice_flip {p : Pg} {b : Nat} (hp : p.length = 128) (hb : b / 8 < p.length) : splice (pgCells p) (b / 8) [byteV (p[b / 8]'hb ^^^ ((1 : UInt8) <<< UInt8.ofNat (b % 8)))] = pgCells (Dk.flip p b) := by
  rw [splice_one _ _ _ (by rw [pgCells_len]; exact hb)]
  unfold Dk.flip pgCells
  have e : (p[b / 8]?).getD 0 = p[b / 8]'hb := by simp [hb]
  rw [List.map_set, e]
/-- the pages are others, in the same block -/
theorem PD.repage {w : World} {d d' : Dk} {D G B : Nat} (h : PD w D G B d) (hn : d'.n = d.n) (hq : d'.pend = d.pend) (ho : d'.off = d.off) (ht : d'.trip = d.trip) (hw : d'.WF) {X : Array Value}
    (hO : ∀ cap, OwnS w (some G) 97 128 EPg (.slice (some ⟨G, 0, none⟩) d.n cap) d.pages → OwnS (putB w G X 97) (some G) 97 128 EPg (.slice (some ⟨G, 0, none⟩) d.n cap) d'.pages) : PD (putB w G X 97) D G B d' := by
  obtain ⟨cap, h1, h2, h3, h4⟩ := h
  have hpn : d'.pn = d.pn := by funext i; unfold Dk.pn; rw [hq]
  refine ⟨cap, ?_, ⟨?_, ?_, hw, by rw [hn]; exact h2.lo, by rw [hn]; exact h2.hi, h2.ne⟩, h3, h4⟩
  · rw [hn, ho, ht, putB_blk_ne _ _ _ _ _ h3]; exact h1
  · rw [hn]; exact hO cap h2.own
  · rw [hn, hpn]; exact h2.map.blk (putB_blk_ne _ _ _ _ _ (fun e => h2.ne e.symm))
theorem rot_bad (i b : Int) (w : World) (h : PD w D G B d) (hr : d.rotok i b = false) : Calls Try.prog 32 #[.pointer (some ⟨D, 0, none⟩), .int .i64 i, .int .i64 b] w fun e w' => e = .returned (.int .i64 (d.rotE i b)) ∧ PD w' D G B (d.rot i b) ∧ Kept (InD D G B) w w' := by
  have HH := Lib.hid h
  have e1 : d.rotE i b = 1 := by unfold Dk.rotE; rw [hr]; rfl
  have e2 : d.rot i b = d := by unfold Dk.rot; rw [hr]; rfl
  have E1 := Lib.hid e1
  have E2 := Lib.hid e2
  have HR := Lib.hid hr
  clear e1 e2 hr h
  cases hi : d.is i with
  | false =>
    have HI := Lib.hid hi
    clear hi
    go_enter Try.func32, Try.ntmps32
    go_wp2_with (go_at_call 48; refine (is_ok _ _ HH.out).mono ?_; rintro e w' ⟨rfl, rfl⟩; rw [HI.out])
    go_ret
    exact ⟨ret_e' E1.out.symm, by rw [E2.out]; exact HH.out, Kept.refl _ _⟩
  | true =>
    have HI := Lib.hid hi
    by_cases h1 : b < 0
    · clear hi
      go_enter Try.func32, Try.ntmps32
      go_wp2_with (go_at_call 48; refine (is_ok _ _ HH.out).mono ?_; rintro e w' ⟨rfl, rfl⟩; rw [HI.out])
      go_ret
      exact ⟨ret_e' E1.out.symm, by rw [E2.out]; exact HH.out, Kept.refl _ _⟩
    have t1 : decide (b < 0) = false := decide_eq_false h1
    have h2 : 1024 ≤ b := by
      by_cases h : 1024 ≤ b
      · exact h
      · have := (Dk.rotok_iff (d := d) (i := i) (b := b)).2 ⟨Dk.is_iff.1 hi, by omega, by omega⟩
        rw [HR.out] at this; cases this
    clear hi
    go_enter Try.func32, Try.ntmps32
    go_wp2_with (go_at_call 48; refine (is_ok _ _ HH.out).mono ?_; rintro e w' ⟨rfl, rfl⟩; rw [HI.out])
    go_ret
    exact ⟨ret_e' E1.out.symm, by rw [E2.out]; exact HH.out, Kept.refl _ _⟩
theorem rot_goes (i b : Nat) (w : World) (h : PD w D G B d) (hr : d.rotok i b = true) : Calls Try.prog 32 #[.pointer (some ⟨D, 0, none⟩), .int .i64 i, .int .i64 b] w fun e w' => e = .returned (.int .i64 (d.rotE i b)) ∧ PD w' D G B (d.rot i b) ∧ Kept (InD D G B) w w' := by
  have HH := Lib.hid h
  obtain ⟨⟨h1, h2⟩, h3, h4⟩ := Dk.rotok_iff.1 hr
  have hi : d.is i = true := Dk.is_iff.2 ⟨h1, h2⟩
  have HI := Lib.hid hi
  have hin : i < d.n := by omega
  have hb : b < 1024 := by omega
  have e1 : d.rotE i b = 0 := by unfold Dk.rotE; rw [hr]; rfl
  have E1 := Lib.hid e1
  have t2 : decide ((1024 : Int) ≤ b) = false := decide_eq_false (by omega)
  have t2n : decide (1024 ≤ b) = false := decide_eq_false (by omega)
  obtain ⟨cap, c0, _, _, _⟩ := h.cells
  have hrg := h.rangeOf hin
  have hgl := (h.wf.pg_len hin).1
  have hq : b / 8 < 128 := by omega
  have hcell := hrg (b / 8) (byteV ((d.pg i)[b / 8]'(by rw [hgl]; exact hq))) (by unfold pgCells; rw [List.getElem?_map, List.getElem?_eq_getElem (by rw [hgl]; exact hq)]; rfl)
  unfold byteV at hcell
  have e2 : d.rot i b = { d with pages := d.pages.set i (Dk.flip (d.pg i) b) } := by unfold Dk.rot; rw [hr]; rfl
  have E2 := Lib.hid e2
  have hwf := h.wf.rot i b
  rw [e2] at hwf
  have hxi := (h.wf.pg_len hin).2
  obtain ⟨cap0, hD0, hC0, _, _⟩ := id h
  obtain ⟨g, capx, cur, z1, z2, z3, z4, z5, z6, z7⟩ := hC0.own.part (j := b / 8) (us := [byteV ((d.pg i)[b / 8]'(by rw [hgl]; exact hq) ^^^ ((1 : UInt8) <<< UInt8.ofNat (b % 8)))]) (x' := Dk.flip (d.pg i) b) hxi (by simp; omega) (by rintro cs rfl _; exact splice_flip hgl _)
  simp only [Option.some.injEq] at z4
  subst z4
  have hpd := h.repage (d' := { d with pages := d.pages.set i (Dk.flip (d.pg i) b) }) (X := (splice cur.toList (i * 128 + b / 8) [byteV ((d.pg i)[b / 8]'(by rw [hgl]; exact hq) ^^^ ((1 : UInt8) <<< UInt8.ofNat (b % 8)))]).toArray) (by show (List.set _ _ _).length = _; simp; rfl) rfl rfl rfl hwf (fun cap3 hO3 => by
    obtain ⟨g', capx', cur', y1, y2, y3, y4, y5, y6, y7⟩ := hO3.part (j := b / 8) (us := [byteV ((d.pg i)[b / 8]'(by rw [hgl]; exact hq) ^^^ ((1 : UInt8) <<< UInt8.ofNat (b % 8)))]) (x' := Dk.flip (d.pg i) b) hxi (by simp; omega) (by rintro cs rfl _; exact splice_flip hgl _)
    simp only [Option.some.injEq] at y4
    subst y4
    rw [z5] at y5
    cases y5
    exact y7)
  have HPD := Lib.hid hpd
  have HKD := Lib.hid (keptD (M := InD D G B) (w0 := w) (.inr (.inl rfl)) (splice cur.toList (i * 128 + b / 8) [byteV ((d.pg i)[b / 8]'(by rw [hgl]; exact hq) ^^^ ((1 : UInt8) <<< UInt8.ofNat (b % 8)))]).toArray 97)
  have HCU := Lib.hid z5
  have hfi : i * 128 + b / 8 + 1 ≤ cur.size := z6
  have HFI := Lib.hid hfi
  clear e2 hwf hxi hD0 hC0 z1 z2 z3 z5 z6 z7 hpd hfi
  have q1 : (0 : Int) ≤ (b : Int) / 8 := by omega
  have q2 : (b : Int) / 8 < 128 := by omega
  have q3 : ((b : Int) / 8).toNat = b / 8 := by omega
  have q4 : (0 : Int) ≤ (b : Int) % 8 := by omega
  clear hrg hi hr h e1
  go_enter Try.func32, Try.ntmps32
  go_wp2_with (go_at_call 48; refine (is_ok _ _ HH.out).mono ?_; rintro e w' ⟨rfl, rfl⟩; rw [HI.out])
  have q5 : IntKind.i64.wrap ((b : Int) / 8) = (b : Int) / 8 := IntWalk.i64_in _ (by omega)
  have q6 : IntKind.i64.wrap ((b : Int) % 8) = (b : Int) % 8 := IntWalk.i64_in _ (by omega)
  have q7 := fun wx => run_bit (P := Try.prog) b wx
  go_still_tail 16, (by kernel_rfl)
  clear q5 q6 q7 q1 q2 q3 q4
  change wpList _ _ _ _ _ w.drew
  refine wpList_store_one rfl 5 _ _ rfl G (i * 128 + b / 8) _ cur 97 rfl rfl HCU.out HFI.out infoByte rfl rfl ?_
  rw [bits_byte _ _ (Nat.mod_lt _ (by omega))]
  try simp only [Act.put, List.setIfInBounds_toArray, List.set_cons_zero, List.set_cons_succ]
  go_wp2_with fail
  go_ret
  exact ⟨ret_e' E1.out.symm, (by rw [E2.out]; exact HPD.out.kept0 ((Kept.refl NoM _).drew)), (HKD.out.trans' (Kept.refl (InD D G B) _) (fun _ _ x => x)).drew⟩
end Go.Proofs.Ytjcmnobfdidnkaa
