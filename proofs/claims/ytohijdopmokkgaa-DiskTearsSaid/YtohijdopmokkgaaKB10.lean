/- Walks: Rot of the specification's disk. -/
import Derived.Test.YtohijdopmokkgaaKB9
import Derived.Test.YtohijdopmokkgaaKA14
import Derived.Lib.ConvBytes
set_option linter.unusedVariables false
set_option linter.unusedSimpArgs false
set_option linter.unusedSectionVars false
namespace Go.Proofs.Ytohijdopmokkgaa
open Go.RowKit
set_option maxHeartbeats 2000000
set_option maxRecDepth 100000
variable {R Q : Nat} {d : Dk}
section
variable {w : World} {ops : Array Oper} {rest : List Oper} {o : Oper} {a : Act} {Qx : Exit → Act → World → Prop}
/-- '[]byte(s)' -/
theorem wpList_conv_bytes {p : Pg} (hg : o.guard = none) (x : Operand) (ho : o.op = .convert 9 75 x) (hx : a.eval x = strV p)
    (hK : ∀ cap W, Kept NoM w W → W.heap.size = w.heap.size + 1 → (∀ j u, (pgCells p)[j]? = some u → W.cell? ⟨w.heap.size, j, none⟩ = some u ∧ W.frozen? ⟨w.heap.size, j, none⟩ = false) → wpList Try.prog ops Qx rest (a.put o.dst (.slice (some ⟨w.heap.size, 0, none⟩) p.length cap)) W) : wpList Try.prog ops Qx (o :: rest) a w := by
  refine wpList_plain hg fun K' hK' => ?_
  have hrun := Lib.run_convert_string_bytes (P := Try.prog) w 9 75 5 ⟨p.toArray⟩ Try.underlying9 Try.underlying75 Try.underlying5
  have hsz : (⟨p.toArray⟩ : ByteArray).size = p.length := by simp [ByteArray.size]
  rw [hsz] at hrun
  have hk : Kept NoM w (Lib.bytesWorld w 5 ⟨p.toArray⟩) := ⟨rfl, rfl, rfl, by rw [Lib.bytesWorld_size]; omega, fun i hi _ => Lib.bytesWorld_at_old _ _ _ _ hi⟩
  have hc : ∀ j u, (pgCells p)[j]? = some u → (Lib.bytesWorld w 5 ⟨p.toArray⟩).cell? ⟨w.heap.size, j, none⟩ = some u ∧ (Lib.bytesWorld w 5 ⟨p.toArray⟩).frozen? ⟨w.heap.size, j, none⟩ = false := by
    intro j u hu
    have hj : j < p.length := by have := (List.getElem?_eq_some_iff.1 hu).1; rwa [pgCells_len] at this
    constructor
    · rw [Lib.bytesWorld_cell w 5 ⟨p.toArray⟩ j (by rw [hsz]; exact hj), ← hu]
      unfold pgCells
      rw [List.getElem?_map, List.getElem?_eq_getElem hj]
      simp [byteV, List.getD_eq_getElem?_getD, hj]
    · have hcs : (Lib.bytesCells w 5 ⟨p.toArray⟩).size ≥ p.length := by simp [Lib.bytesCells]
      simp only [World.frozen?, Lib.bytesWorld_at_new]
      simp
      omega
  unfold Oper.wp
  simp only [execOp, ho, hx]
  have := hK' _ _ (hK (grownCap w p.length 0 5) _ hk (Lib.bytesWorld_size _ _ _) hc)
  unfold strV
  simp [hrun, Result.andThen]
  exact this
end
/-- 'string(b)' in a region's quiet part -/
theorem wpStill_conv {ops : Array Oper} {rest : List Oper} {o : Oper} {a : Act} {W : World} {Q : Act → Prop} (hgd : o.guard = none) (x : Operand) (ho : o.op = .convert 75 9 x) {p : Pg} (b cap : Nat) (hx : a.eval x = .slice (some ⟨b, 0, none⟩) 128 cap) (hc : W.rangeAt b 0 (pgCells p)) (hp : p.length = 128)
    (h : wpStill Try.prog ops W Q rest (a.put o.dst (strV p))) : wpStill Try.prog ops W Q (o :: rest) a := by
  refine wpStill_step fun K hK => ?_
  have hw : Region.wanted o (yielded ops a.tmps) = true := by simp [Region.wanted, hgd]
  rw [if_pos hw]
  have hl := conv_page 75 5 9 Try.underlying75 Try.underlying5 Try.underlying9 W b 0 128 cap p hp (fun j u hu => hc j u hu)
  unfold Oper.still
  simp only [execOp, ho, hx]
  simp [hl]
  exact ⟨rfl, hK _ h⟩
theorem rrot_bad (i b : Int) (w : World) (h : SD w R Q d) (hr : d.rotok i b = false) : Calls Try.prog 38 #[.pointer (some ⟨R, 0, none⟩), .int .i64 i, .int .i64 b] w fun e w' => e = .returned (.int .i64 (d.rotE i b)) ∧ SD w' R Q (d.rot i b) ∧ Kept (InS R Q) w w' := by
  have HH := Lib.hid h
  have e1 : d.rotE i b = 1 := by unfold Dk.rotE; rw [hr]; rfl
  have e2 : d.rot i b = d := by unfold Dk.rot; rw [hr]; rfl
  have E1 := Lib.hid e1
  have E2 := Lib.hid e2
  have HR := Lib.hid hr
  clear e1 e2 hr h
  cases hi : d.is i with
  | false =>
    have HI := Lib.hid hi
    clear hi
    go_enter Try.func38, Try.ntmps38
    go_wp2_with (go_at_call 50; refine (ris_ok _ _ HH.out).mono ?_; rintro e w' ⟨rfl, rfl⟩; rw [HI.out])
    go_ret
    exact ⟨ret_e' E1.out.symm, by rw [E2.out]; exact HH.out, Kept.refl _ _⟩
  | true =>
    have HI := Lib.hid hi
    by_cases h1 : b < 0
    · clear hi
      go_enter Try.func38, Try.ntmps38
      go_wp2_with (go_at_call 50; refine (ris_ok _ _ HH.out).mono ?_; rintro e w' ⟨rfl, rfl⟩; rw [HI.out])
      go_ret
      exact ⟨ret_e' E1.out.symm, by rw [E2.out]; exact HH.out, Kept.refl _ _⟩
    have t1 : decide (b < 0) = false := decide_eq_false h1
    have h2 : 1024 ≤ b := by
      by_cases h : 1024 ≤ b
      · exact h
      · have := (Dk.rotok_iff (d := d) (i := i) (b := b)).2 ⟨Dk.is_iff.1 hi, by omega, by omega⟩
        rw [HR.out] at this; cases this
    clear hi
    go_enter Try.func38, Try.ntmps38
    go_wp2_with (go_at_call 50; refine (ris_ok _ _ HH.out).mono ?_; rintro e w' ⟨rfl, rfl⟩; rw [HI.out])
    go_ret
    exact ⟨ret_e' E1.out.symm, by rw [E2.out]; exact HH.out, Kept.refl _ _⟩
theorem rrot_goes (i b : Nat) (w : World) (h : SD w R Q d) (hr : d.rotok i b = true) : Calls Try.prog 38 #[.pointer (some ⟨R, 0, none⟩), .int .i64 i, .int .i64 b] w fun e w' => e = .returned (.int .i64 (d.rotE i b)) ∧ SD w' R Q (d.rot i b) ∧ Kept (InS R Q) w w' := by
  have HH := Lib.hid h
  obtain ⟨⟨h1, h2⟩, h3, h4⟩ := Dk.rotok_iff.1 hr
  have hi : d.is i = true := Dk.is_iff.2 ⟨h1, h2⟩
  have HI := Lib.hid hi
  have hin : i < d.n := by omega
  have hb : b < 1024 := by omega
  have e1 : d.rotE i b = 0 := by unfold Dk.rotE; rw [hr]; rfl
  have E1 := Lib.hid e1
  have e2 : d.rot i b = { d with pages := d.pages.set i (Dk.flip (d.pg i) b) } := by unfold Dk.rot; rw [hr]; rfl
  have E2 := Lib.hid e2
  have hwf := h.wf.rot i b
  rw [e2] at hwf
  have HWF := Lib.hid hwf
  have t2 : decide ((1024 : Int) ≤ b) = false := decide_eq_false (by omega)
  have t2n : decide (1024 ≤ b) = false := decide_eq_false (by omega)
  obtain ⟨cap, c0, _, _⟩ := h.cells
  obtain ⟨r0, _, _⟩ := h.row hin
  have hgl := (h.wf.pg_len hin).1
  have hwfo := h.wf
  have hsp : spOf { d with pages := d.pages.set i (Dk.flip (d.pg i) b) } = (spOf d).set i (Dk.flip (d.pg i) b, d.pn i) := by
    have hnn : ({ d with pages := d.pages.set i (Dk.flip (d.pg i) b) } : Dk).n = d.n := by show (List.set _ _ _).length = _; simp; rfl
    unfold spOf
    rw [map_set_range, hnn]
    refine map_range_congr fun j hj => ?_
    by_cases hji : j = i
    · subst hji
      rw [if_pos rfl]
      show ((((d.pages.set j _)[j]?).getD [] : Pg), _) = _
      rw [List.getElem?_set_self hj]; rfl
    · rw [if_neg hji]
      show ((((d.pages.set i _)[j]?).getD [] : Pg), _) = _
      rw [List.getElem?_set_ne (Ne.symm hji)]; rfl
  have HSP := Lib.hid hsp
  generalize hpg : d.pg i = p at *
  have HPG := Lib.hid hpg
  have hki : (i : Int) < d.n := by omega
  have hq : b / 8 < 128 := by omega
  have q1 : (0 : Int) ≤ (b : Int) / 8 := by omega
  have q2 : (b : Int) / 8 < 128 := by omega
  have q3 : ((b : Int) / 8).toNat = b / 8 := by omega
  have q4 : (0 : Int) ≤ (b : Int) % 8 := by omega
  have HGL := Lib.hid hgl
  clear hi hr h e1 e2 hwf hwfo hsp hpg
  unfold strV at r0
  go_enter Try.func38, Try.ntmps38
  go_wp2_with (first | (go_at_call 50; refine (ris_ok _ _ HH.out).mono ?_; rintro e w' ⟨rfl, rfl⟩; rw [HI.out]) | (refine wpList_conv_bytes (p := p) rfl _ rfl rfl ?_; intro bc W kW hWz hWc; rw [HGL.out]; have HKW := Lib.hid kW; have HWZ := Lib.hid hWz; have HWC := Lib.hid hWc; clear kW hWz hWc))
  have hlen : b / 8 < p.length := by rw [HGL.out]; exact hq
  have hcb := HWC.out (b / 8) (byteV (p[b / 8]'hlen)) (by unfold pgCells; rw [List.getElem?_map, List.getElem?_eq_getElem hlen]; rfl)
  obtain ⟨x0, x1⟩ := hcb
  unfold byteV at x0
  have d0 := HKW.out.cell c0 (fun x => x)
  have zg : w.heap.size < W.heap.size := by have := HWZ.out; omega
  generalize hge : w.heap.size = g at *
  have HGE := Lib.hid hge
  clear hge
  have q5 : IntKind.i64.wrap ((b : Int) / 8) = (b : Int) / 8 := IntWalk.i64_in _ (by omega)
  have q6 : IntKind.i64.wrap ((b : Int) % 8) = (b : Int) % 8 := IntWalk.i64_in _ (by omega)
  have q7 := fun wx => run_bit (P := Try.prog) b wx
  go_still_tail 13, (by kernel_rfl)
  clear q5 q6 q7 q1 q2 q3 q4
  change wpList _ _ _ _ _ W.drew
  rw [bits_byte _ _ (Nat.mod_lt _ (by omega))]
  go_wp2_with fail
  have hval : (Value.int .u8 ((p[b / 8].toNat ^^^ 1 <<< (b % 8) % 256 : Nat) : Int)) = byteV (p[b / 8]'hlen ^^^ ((1 : UInt8) <<< UInt8.ofNat (b % 8))) := by
    unfold byteV
    congr 2
    have hm8 : b % 8 < 8 := Nat.mod_lt _ (by omega)
    simp [UInt8.toNat_xor, UInt8.toNat_shiftLeft]
  obtain ⟨W1, hW1⟩ : ∃ W1, W1 = (W.setCell ⟨g, b / 8, none⟩ (.int .u8 ((p[b / 8].toNat ^^^ 1 <<< (b % 8) % 256 : Nat) : Int))).drew := ⟨_, rfl⟩
  rw [← hW1]
  have hKW1 : Kept NoM w W1 := by
    rw [hW1]
    exact ((HKW.out.of_no (M := NoM)).setCell (fun hlt => by rw [HGE.out] at hlt; exact absurd hlt (Nat.lt_irrefl _)) _).drew
  have hrng : W1.rangeAt g 0 (pgCells (Dk.flip p b)) := by
    intro j u hu
    rw [Nat.zero_add]
    have hj : j < p.length := by have := (List.getElem?_eq_some_iff.1 hu).1; rw [pgCells_len, Dk.flip_len] at this; exact this
    unfold pgCells at hu
    rw [List.getElem?_map, Dk.flip_at hj] at hu
    simp only [Option.map_some, Option.some.injEq] at hu
    rw [hW1]
    show (W.setCell _ _).cell? _ = _
    by_cases hjb : j = b / 8
    · subst hjb
      rw [if_pos rfl] at hu
      rw [World.cell?_setCell_same (w := W) (a := ⟨g, b / 8, none⟩) (h := x0), hval, hu]
    · rw [if_neg hjb, UInt8.xor_zero] at hu
      rw [World.cell?_setCell_other (w := W) (a := ⟨g, b / 8, none⟩) (b := ⟨g, j, none⟩) (h := fun e => hjb (Addr.mk.inj e).2.1.symm), (HWC.out j u (by unfold pgCells; rw [List.getElem?_map, List.getElem?_eq_getElem hj]; simpa using hu)).1]
  have hconv : World.rangeAt { heap := W1.heap, tape := W1.tape, drawn := W1.drawn + 1, os := W1.os, output := W1.output } g 0 (pgCells (Dk.flip p b)) := fun j u hu => hrng j u hu
  have HKW1 := Lib.hid hKW1
  have d1 := hKW1.cell c0 (fun x => x)
  obtain ⟨cur, z1, z2, z3, z4⟩ := (HH.out.kept0 hKW1).setPage (d' := { d with pages := d.pages.set i (Dk.flip p b) }) hin (j := 0) (us := [strV (Dk.flip p b)]) (x' := (Dk.flip p b, d.pn i)) (by simp) rfl HSP.out HWF.out (by show (List.set _ _ _).length = _; simp; rfl) rfl rfl
  have HCU := Lib.hid z1
  have hfi : i * 3 + 1 ≤ cur.size := z2
  have HFI := Lib.hid hfi
  have HSD := Lib.hid z3
  have HK4 := Lib.hid z4
  clear z1 z2 z3 z4 hfi hrng hKW1 hval hW1 x0 x1 d0 zg r0 c0
  go_still_tail 9, (by kernel_rfl)
  refine wpStill_conv rfl _ rfl g bc rfl hconv (by rw [Dk.flip_len]; exact HGL.out) ?_
  repeat still_step
  refine wpStill_nil ?_
  change wpList _ _ _ _ _ W1.drew
  refine wpList_store_one rfl 9 _ _ rfl Q (i * 3) _ cur 53 rfl rfl HCU.out HFI.out infoStr rfl rfl ?_
  try simp only [Act.put, List.setIfInBounds_toArray, List.set_cons_zero, List.set_cons_succ]
  go_wp2_with fail
  go_ret
  exact ⟨ret_e' E1.out.symm, (by rw [E2.out]; exact HSD.out.kept0 ((Kept.refl NoM _).drew)), (HKW1.out.of_no.trans HK4.out).drew⟩
end Go.Proofs.Ytohijdopmokkgaa
