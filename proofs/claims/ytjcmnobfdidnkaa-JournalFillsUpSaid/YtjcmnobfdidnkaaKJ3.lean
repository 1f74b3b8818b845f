/- Walks: a head as a page. -/
import Derived.Test.YtjcmnobfdidnkaaKJ2
import Derived.Deep.Quiet
import Derived.Deep.QuietTactic
set_option linter.unusedVariables false
set_option linter.unusedSimpArgs false
set_option linter.unusedSectionVars false
namespace Go.Proofs.Ytjcmnobfdidnkaa
open Go.RowKit
set_option maxHeartbeats 2000000
set_option maxRecDepth 4000
/-- a region that draws its order, whose operations read and whose calls only add memory: one walk -/
theorem wp_region_grow {P : Program} {id : Nat} {Q : Exit → Act → World → Prop} {a : Act} {w : World} {l : List Oper} (hm : P.follows .mixedOrders = true) (hB : Region.lexB .any l.toArray = true)
    (h : wpQuiet P l.toArray (fun w' => Kept NoM w w') (fun a' => ∀ w', Kept NoM w w' → Q .normal a' w') l a) : (Code.region id l.toArray true).wp P Q a w :=
  wp_region_quiet (C := fun w' => Kept NoM w w') hm hB (Kept.refl NoM w).drew (by simpa using h)
theorem zeroArr (w : World) : (zeroValue 96).run Try.prog w = .ok (.agg (pgCells Dk.zero).toArray) w := by kernel_rfl
theorem undArr : Try.prog.underlying 96 = some (.array 128 5) := by kernel_rfl
section
variable {w : World} {ops : Array Oper} {rest : List Oper} {o : Oper} {a : Act} {Q : Exit → Act → World → Prop} {g : Nat} {t : TypeId} {p : Pg}
theorem BY.still {w' : World} {M : Nat → Prop} (h : BY w g t p) (k : Kept M w w') (hg : ¬ M g) : BY w' g t p := k.blk h hg
/-- an array's variable is made -/
theorem wpList_alloc_by (hgd : o.guard = none) (ho : o.op = .alloc 96)
    (h : ∀ w', BY w' w.heap.size 96 Dk.zero → Kept NoM w w' → w.heap.size < w'.heap.size → wpList Try.prog ops Q rest (a.put o.dst (.pointer (some ⟨w.heap.size, 0, none⟩))) w') : wpList Try.prog ops Q (o :: rest) a w :=
  wpList_alloc_Z hgd 96 ho _ (zeroArr _) (h _ (blk_new w _) ((Kept.refl NoM w).alloc _) (by simp))
/-- a byte is stored -/
theorem wpList_store_by (hgd : o.guard = none) (x y : Operand) (ho : o.op = .store 5 x y) (off : Nat) (c : UInt8) (hx : a.eval x = .pointer (some ⟨g, off, none⟩)) (hy : a.eval y = .int .u8 c.toNat) (hb : BY w g t p) (hoff : off < p.length)
    (h : ∀ w', BY w' g t (p.set off c) → Kept (fun b => b = g) w w' → wpList Try.prog ops Q rest (a.put o.dst undef) w') : wpList Try.prog ops Q (o :: rest) a w := by
  refine wpList_store_one hgd 5 x y ho g off _ _ t hx hy hb (by rw [List.size_toArray, pgCells_len]; omega) infoByte rfl rfl ?_
  have hsp : splice (pgCells p) off [byteV c] = pgCells (p.set off c) := by
    rw [splice_one _ _ _ (by rw [pgCells_len]; exact hoff)]
    unfold pgCells
    rw [List.map_set]
  have hgl := lt_of_block hb
  show wpList _ _ _ _ _ (putB w g (splice (pgCells p) off [byteV c]).toArray t)
  rw [hsp]
  exact h _ (putB_blk _ _ _ _ hgl) ((Kept.refl (fun b => b = g) w).putM rfl _ _)
end
/-- 'b[k:]' over an array's variable -/
theorem arr_from (k : Nat) (hk : k < 128) (g : Nat) (wx : World) : (Instr.sliceAt 96 (.pointer (some ⟨g, 0, none⟩)) (some (.int .i64 k)) none none).run Try.prog wx = .ok (.slice (some ⟨g, k, none⟩) (128 - k) (128 - k)) wx := by
  have h1 : (0 : Int) ≤ k := by omega
  have h2 : (k : Int) ≤ 128 := by omega
  have h3 : ¬ 128 = k := by omega
  have h5 : (Try.prog.info? 5).map (·.size) = some 1 := by kernel_rfl
  cases hq : Try.prog.info? 5 with
  | none => rw [hq] at h5; cases h5
  | some i =>
    have hi : i.size = 1 := by rw [hq] at h5; simpa using h5
    have hk' : k ≤ 128 := by omega
    simp [Instr.sliceAt, Instr.sureAddr, Instr.sliceBounds, Instr.sliceBound, asIntOf, run_underlying undArr, sizeOf, typeInfo, h1, h2, hk', hq, hi, h3]
    rw [Addr.add_mid]; simp
/-- 'b[:k]' over an array's variable -/
theorem arr_to (k : Nat) (hk : k ≤ 128) (g : Nat) (wx : World) : (Instr.sliceAt 96 (.pointer (some ⟨g, 0, none⟩)) none (some (.int .i64 k)) none).run Try.prog wx = .ok (.slice (some ⟨g, 0, none⟩) k 128) wx := by
  have h1 : (0 : Int) ≤ k := by omega
  have h2 : (k : Int) ≤ 128 := by omega
  have h5 : (Try.prog.info? 5).map (·.size) = some 1 := by kernel_rfl
  cases hq : Try.prog.info? 5 with
  | none => rw [hq] at h5; cases h5
  | some i =>
    have hi : i.size = 1 := by rw [hq] at h5; simpa using h5
    simp [Instr.sliceAt, Instr.sureAddr, Instr.sliceBounds, Instr.sliceBound, asIntOf, run_underlying undArr, sizeOf, typeInfo, h1, h2, hk, hq, hi]
    rfl
theorem arr_all (g : Nat) (wx : World) : (Instr.sliceAt 96 (.pointer (some ⟨g, 0, none⟩)) none none none).run Try.prog wx = .ok (.slice (some ⟨g, 0, none⟩) 128 128) wx := by
  have h5 : (Try.prog.info? 5).map (·.size) = some 1 := by kernel_rfl
  cases hq : Try.prog.info? 5 with
  | none => rw [hq] at h5; cases h5
  | some i =>
    have hi : i.size = 1 := by rw [hq] at h5; simpa using h5
    simp [Instr.sliceAt, Instr.sureAddr, Instr.sliceBounds, Instr.sliceBound, asIntOf, run_underlying undArr, sizeOf, typeInfo, hq, hi]
    rfl
theorem BY.cell {w : World} {g : Nat} {t : TypeId} {p : Pg} (h : BY w g t p) {off : Nat} {q : Pg} (hq : ∀ j c, q[j]? = some c → p[off + j]? = some c) : ∀ j u, (pgCells q)[j]? = some u → w.cell? ⟨g, off + j, none⟩ = some u := by
  intro j u hu
  unfold pgCells at hu
  rw [List.getElem?_map] at hu
  simp only [Option.map_eq_some_iff] at hu
  obtain ⟨c, hc, rfl⟩ := hu
  refine cell_blk h (off + j) _ ?_
  unfold pgCells
  simp [hq j c hc]
theorem conv_by {w : World} {g : Nat} {t : TypeId} {p : Pg} (h : BY w g t p) (off len cap : Nat) (q : Pg) (hl : q.length = len) (hq : ∀ j c, q[j]? = some c → p[off + j]? = some c) :
    (convert 91 9 (.slice (some ⟨g, off, none⟩) len cap)).run Try.prog w = .ok (.string ⟨q.toArray⟩) w :=
  conv_page 91 5 9 Try.underlying91 Try.underlying5 Try.underlying9 w g off len cap q hl (h.cell hq)
theorem crc_kept {w8 : World} (sum : Nat) (hs : sum < 4294967296) (s : Pg) (hl : s.length ≤ 1000000) (wx : World) (k : Kept NoM w8 wx) : Calls Try.prog 44 #[.int .u32 sum, .string ⟨s.toArray⟩] wx fun e w' => e = .returned (.int .u32 (crc sum s)) ∧ Hid (Kept NoM w8 w') := by
  refine (crc_ok sum hs s hl wx).mono ?_
  rintro e w' ⟨rfl, k'⟩
  exact ⟨rfl, Lib.hid (k.trans k')⟩
theorem crc_grow {w8 : World} (sum : Nat) (hs : sum < 4294967296) (s : Pg) (hl : s.length ≤ 1000000) {c : Nat} (hc : crc sum s = c) (wx : World) (k : Kept NoM w8 wx) : Calls Try.prog 44 #[.int .u32 sum, .string ⟨s.toArray⟩] wx fun e w' => e = .returned (.int .u32 c) ∧ Kept NoM w8 w' := by
  refine (crc_ok sum hs s hl wx).mono ?_
  rintro e w' ⟨rfl, k'⟩
  exact ⟨by rw [hc], k.trans k'⟩
def hdV (h : Hd) : Value := .agg #[.int .i64 h.seq, .int .i64 h.bank, .int .i64 h.size, .int .i64 h.count, .int .u32 h.sum]
/-- a head's numbers are within bounds -/
structure Hd.Ok (h : Hd) : Prop where
  seq : h.seq < 1000000000000
  bank : h.bank < 256
  size : h.size < 4294967296
  count : h.count < 4294967296
  sum : h.sum < 4294967296
theorem hpage_ok (h : Hd) (hh : h.Ok) (m : UInt8) (w : World) : Calls Try.prog 59 #[hdV h, .int .u8 m.toNat] w fun e w' => e = .returned (strV (hpage h m)) ∧ Kept NoM w w' := by
  obtain ⟨h1, h2, h3, h4, h5⟩ := hh
  unfold hdV
  go_enter Try.func59, Try.ntmps59
  go_wp2_with (first | (refine wpList_alloc_by rfl rfl ?_; intro w1 B1 K1 Z1; change BY w1 (w.heap.push _).size _ _ at B1; change (w.heap.push _).size < _ at Z1; rw [Array.size_push] at B1 Z1; have K1 := Lib.hid K1) | (refine wpList_store_by rfl _ _ rfl 0 m rfl rfl B1 (by rw [zero128]; omega) ?_; intro w2 B2 K2; have K2 := Lib.hid K2) | (refine wpList_store_by rfl _ _ rfl 127 m rfl rfl B2 (by rw [List.length_set, zero128]; omega) ?_; intro w3 B3 K3; have K3 := Lib.hid K3))
  -- HEAD
  have hgd : ∀ b, b = w.heap.size → ¬ b = w.heap.size + 1 := fun b hb e => by omega
  have H3 : Hid (w3.heap[w.heap.size]? = some (.cells #[.int .i64 h.seq, .int .i64 h.bank, .int .i64 h.size, .int .i64 h.count, .int .u32 h.sum] 78 (0, 0))) := Lib.hid (K3.out.blk (K2.out.blk (K1.out.blk (blk_new w _) (fun x => x)) (hgd _ rfl)) (hgd _ rfl))
  have KA : Hid (Kept NoM w w3) := Lib.hid ((((Kept.refl NoM w).alloc _).trans K1.out).trans' K2.out (fun i hi e => by omega) |>.trans' K3.out (fun i hi e => by omega))
  have B3 : Hid (BY w3 (w.heap.size + 1) 96 (hb0 m)) := Lib.hid B3
  clear B1 B2 K1 K2 K3 Z1
  have hp1 := wrapU64 h.seq (by omega)
  have hp2 := wrapU64 h.size (by omega)
  have hp3 := wrapU64 h.count (by omega)
  have hp4 := wrapU64 h.sum (by omega)
  obtain ⟨g, hg⟩ : ∃ g, w.heap.size + 1 = g := ⟨_, rfl⟩
  obtain ⟨g0, hg0⟩ : ∃ g0, w.heap.size = g0 := ⟨_, rfl⟩
  rw [hg] at B3 hgd ⊢
  rw [hg0] at H3 hgd ⊢
  have hgz : w.heap.size ≤ g := by omega
  clear hg hg0
  have KA3 := KA
  have y30 := cell_blk H3.out 0 _ rfl
  have y31 := cell_blk H3.out 1 _ rfl
  have y32 := cell_blk H3.out 2 _ rfl
  have y33 := cell_blk H3.out 3 _ rfl
  have y34 := cell_blk H3.out 4 _ rfl
  have hbk : IntKind.u8.wrap (h.bank : Int) = ((UInt8.ofNat h.bank).toNat : Int) := by simp [IntKind.wrap, IntKind.signed, IntKind.bits]
  have hs : ∀ wx, (Instr.sliceAt 96 (.pointer (some ⟨g, 0, none⟩)) (some (.int .i64 1)) none none).run Try.prog wx = .ok (.slice (some ⟨g, 1, none⟩) 127 127) wx := fun wx => arr_from 1 (by omega) g wx
  try simp only [Act.put]
  go_still_tail 4, (by kernel_rfl)
  clear hs y30 y31 y32 y33 y34
  change wpList _ _ _ _ _ w3.drew
  go_wp2_with (first | (go_at_call 71; refine (put_ok g 96 1 127 127 h.seq (by omega) 8 (by omega) (by omega) _ (by rw [hb0_len]; omega) (by rw [hb0_len]; omega) w3.drew B3.out).mono ?_; rintro e w4 ⟨rfl, b4, k4⟩; have B4 : Hid (BY w4 g 96 (hb1 h m)) := Lib.hid b4; have H4 := Lib.hid (k4.blk H3.out (hgd _ rfl)); have y40 := cell_blk H4.out 0 _ rfl; have y41 := cell_blk H4.out 1 _ rfl; have y42 := cell_blk H4.out 2 _ rfl; have y43 := cell_blk H4.out 3 _ rfl; have y44 := cell_blk H4.out 4 _ rfl; have KA4 := Lib.hid (KA3.out.drew.trans' k4 (fun i hi e => by omega)); clear b4 k4) | (refine wpList_store_by rfl _ _ rfl 9 (UInt8.ofNat h.bank) rfl (by rw [← hbk]; rfl) B4.out (by rw [hb1_len]; omega) ?_; intro w5 b5 k5; have B5 : Hid (BY w5 g 96 (hb2 h m)) := Lib.hid b5; have H5 := Lib.hid (k5.blk H4.out (hgd _ rfl)); have y50 := cell_blk H5.out 0 _ rfl; have y51 := cell_blk H5.out 1 _ rfl; have y52 := cell_blk H5.out 2 _ rfl; have y53 := cell_blk H5.out 3 _ rfl; have y54 := cell_blk H5.out 4 _ rfl; have KA5 := Lib.hid (KA4.out.trans' k5 (fun i hi e => by omega)); clear b5 k5 y40 y41 y42 y43 y44))
  have hs : ∀ wx, (Instr.sliceAt 96 (.pointer (some ⟨g, 0, none⟩)) (some (.int .i64 10)) none none).run Try.prog wx = .ok (.slice (some ⟨g, 10, none⟩) 118 118) wx := fun wx => arr_from 10 (by omega) g wx
  try simp only [Act.put]
  go_still_tail 4, (by kernel_rfl)
  clear hs y50 y51 y52 y53 y54
  change wpList _ _ _ _ _ w5.drew
  go_wp2_with (go_at_call 71; refine (put_ok g 96 10 118 118 h.size (by omega) 4 (by omega) (by omega) _ (by rw [hb2_len]; omega) (by rw [hb2_len]; omega) w5.drew B5.out).mono ?_; rintro e w6 ⟨rfl, b6, k6⟩; have B6 : Hid (BY w6 g 96 (hb3 h m)) := Lib.hid b6; have H6 := Lib.hid (k6.blk H5.out (hgd _ rfl)); have y60 := cell_blk H6.out 0 _ rfl; have y61 := cell_blk H6.out 1 _ rfl; have y62 := cell_blk H6.out 2 _ rfl; have y63 := cell_blk H6.out 3 _ rfl; have y64 := cell_blk H6.out 4 _ rfl; have KA6 := Lib.hid (KA5.out.drew.trans' k6 (fun i hi e => by omega)); clear b6 k6)
  have hs : ∀ wx, (Instr.sliceAt 96 (.pointer (some ⟨g, 0, none⟩)) (some (.int .i64 14)) none none).run Try.prog wx = .ok (.slice (some ⟨g, 14, none⟩) 114 114) wx := fun wx => arr_from 14 (by omega) g wx
  try simp only [Act.put]
  go_still_tail 4, (by kernel_rfl)
  clear hs y60 y61 y62 y63 y64
  change wpList _ _ _ _ _ w6.drew
  go_wp2_with (go_at_call 71; refine (put_ok g 96 14 114 114 h.count (by omega) 4 (by omega) (by omega) _ (by rw [hb3_len]; omega) (by rw [hb3_len]; omega) w6.drew B6.out).mono ?_; rintro e w7 ⟨rfl, b7, k7⟩; have B7 : Hid (BY w7 g 96 (hb4 h m)) := Lib.hid b7; have H7 := Lib.hid (k7.blk H6.out (hgd _ rfl)); have y70 := cell_blk H7.out 0 _ rfl; have y71 := cell_blk H7.out 1 _ rfl; have y72 := cell_blk H7.out 2 _ rfl; have y73 := cell_blk H7.out 3 _ rfl; have y74 := cell_blk H7.out 4 _ rfl; have KA7 := Lib.hid (KA6.out.drew.trans' k7 (fun i hi e => by omega)); clear b7 k7)
  have hs : ∀ wx, (Instr.sliceAt 96 (.pointer (some ⟨g, 0, none⟩)) (some (.int .i64 18)) none none).run Try.prog wx = .ok (.slice (some ⟨g, 18, none⟩) 110 110) wx := fun wx => arr_from 18 (by omega) g wx
  try simp only [Act.put]
  go_still_tail 4, (by kernel_rfl)
  clear hs y70 y71 y72 y73 y74
  change wpList _ _ _ _ _ w7.drew
  go_wp2_with (go_at_call 71; refine (put_ok g 96 18 110 110 h.sum (by omega) 4 (by omega) (by omega) _ (by rw [hb4_len]; omega) (by rw [hb4_len]; omega) w7.drew B7.out).mono ?_; rintro e w8 ⟨rfl, b8, k8⟩; have B8 : Hid (BY w8 g 96 (hbody h m)) := Lib.hid b8; have H8 := Lib.hid (k8.blk H7.out (hgd _ rfl)); have y80 := cell_blk H8.out 0 _ rfl; have y81 := cell_blk H8.out 1 _ rfl; have y82 := cell_blk H8.out 2 _ rfl; have y83 := cell_blk H8.out 3 _ rfl; have y84 := cell_blk H8.out 4 _ rfl; have KA8 := Lib.hid (KA7.out.drew.trans' k8 (fun i hi e => by omega)); clear b8 k8)
  have hpl := hbody_len h m
  obtain ⟨p, hp⟩ : ∃ p, hbody h m = p := ⟨_, rfl⟩
  have HP := Lib.hid hp
  rw [hp] at hpl B8
  have BYK := Lib.hid (fun w' (k : Kept NoM w8 w') => B8.out.still k (fun x => x))
  have hb8 := B8.out
  have hs1 : ∀ wx, (Instr.sliceAt 96 (.pointer (some ⟨g, 0, none⟩)) none (some (.int .i64 22)) none).run Try.prog wx = .ok (.slice (some ⟨g, 0, none⟩) 22 128) wx := fun wx => arr_to 22 (by omega) g wx
  have hs2 : ∀ wx, (Instr.sliceAt 96 (.pointer (some ⟨g, 0, none⟩)) (some (.int .i64 26)) none none).run Try.prog wx = .ok (.slice (some ⟨g, 26, none⟩) 102 102) wx := fun wx => arr_from 26 (by omega) g wx
  have hc1 : ∀ w', Kept NoM w8 w' → (convert 91 9 (.slice (some ⟨g, 0, none⟩) 22 128)).run Try.prog w' = .ok (.string ⟨(p.take 22).toArray⟩) w' := fun w' hb => conv_by (BYK.out w' hb) 0 22 128 (p.take 22) (by rw [List.length_take, hpl]; rfl) (fun j c hj => by rw [List.getElem?_take] at hj; split at hj; rw [Nat.zero_add]; exact hj; cases hj)
  have hc2 : ∀ w', Kept NoM w8 w' → (convert 91 9 (.slice (some ⟨g, 26, none⟩) 102 102)).run Try.prog w' = .ok (.string ⟨(p.drop 26).toArray⟩) w' := fun w' hb => conv_by (BYK.out w' hb) 26 102 102 (p.drop 26) (by rw [List.length_drop, hpl]) (fun j c hj => by rw [List.getElem?_drop] at hj; exact hj)
  have hl1 : (p.take 22).length ≤ 1000000 := by rw [List.length_take]; omega
  have hl2 : (p.drop 26).length ≤ 1000000 := by rw [List.length_drop]; omega
  obtain ⟨s1, hs1e⟩ : ∃ s, p.take 22 = s := ⟨_, rfl⟩
  obtain ⟨s2, hs2e⟩ : ∃ s, p.drop 26 = s := ⟨_, rfl⟩
  rw [hs1e] at hc1 hl1
  rw [hs2e] at hc2 hl2
  obtain ⟨c1, hc1e⟩ : ∃ c, crc 0 s1 = c := ⟨_, rfl⟩
  obtain ⟨c2, hc2e⟩ : ∃ c, crc c1 s2 = c := ⟨_, rfl⟩
  have hcl : c1 < 4294967296 := by rw [← hc1e]; exact crc_lt _ _
  have hcl2 : c2 < 4294967296 := by rw [← hc2e]; exact crc_lt _ _
  have HC : Hid (hsum p = c2) := Lib.hid (by unfold hsum; rw [hs1e, hs2e, hc1e, hc2e])
  have Z1 : Hid (∀ wx, Kept NoM w8 wx → Calls Try.prog 44 #[.int .u32 0, .string ⟨s1.toArray⟩] wx fun e w' => e = .returned (.int .u32 c1) ∧ Kept NoM w8 w') := Lib.hid (fun wx k => crc_grow 0 (by omega) s1 hl1 hc1e wx k)
  have Z2 := Lib.hid (fun wx (k : Kept NoM w8 wx) => crc_grow c1 hcl s2 hl2 hc2e wx k)
  have KA8' := KA8
  clear hc1e hc2e hs1e hs2e hp hl1 hl2 hcl hcl2 hpl KA4 KA5 KA6 KA7 H4 H5 H6 H7 B4 B5 B6 B7 KA KA3 H3 B3
  refine wp_region_grow (by kernel_rfl) (by kernel_rfl) ?_
  refine wpQuiet_step (fun K hK => ?_)
  go_simp
  refine ⟨_, fun _ _ => rfl, hK _ ?_⟩
  clear hK K
  refine wpQuiet_step (fun K hK => ?_)
  go_simp
  refine ⟨.string ⟨s1.toArray⟩, fun w' hw' => ?_, hK _ ?_⟩
  · rw [hc1 w' hw']; exact ⟨rfl, rfl⟩
  clear hK K
  refine wpQuiet_step (fun K hK => ?_)
  go_simp
  refine ⟨_, fun w' hw' => Z1.out w' hw', hK _ ?_⟩
  clear hK K
  refine wpQuiet_step (fun K hK => ?_)
  go_simp
  refine ⟨_, fun _ _ => rfl, hK _ ?_⟩
  clear hK K
  refine wpQuiet_step (fun K hK => ?_)
  go_simp
  refine ⟨.string ⟨s2.toArray⟩, fun w' hw' => ?_, hK _ ?_⟩
  · rw [hc2 w' hw']; exact ⟨rfl, rfl⟩
  clear hK K
  refine wpQuiet_step (fun K hK => ?_)
  go_simp
  refine ⟨_, fun w' hw' => Z2.out w' hw', hK _ ?_⟩
  clear hK K
  refine wpQuiet_step (fun K hK => ?_)
  go_simp
  refine ⟨_, fun _ _ => rfl, hK _ ?_⟩
  clear hK K
  refine wpQuiet_nil ?_
  intro w9 k9
  have hb9 := BYK.out w9 k9
  have B9 := Lib.hid hb9
  have KA9 := Lib.hid (KA8.out.trans k9)
  have hpp := HP.out
  have hpl2 : p.length = 128 := by rw [← hpp]; exact hbody_len h m
  have hp5 := wrapU64 c2 (by have := HC.out; have := crc_lt (crc 0 (p.take 22)) (p.drop 26); unfold hsum at *; omega)
  have hc2l : c2 < 4294967296 := by have h9 := HC.out; unfold hsum at h9; rw [← h9]; exact crc_lt _ _
  have hs3 : ∀ wx, (Instr.sliceAt 96 (.pointer (some ⟨g, 0, none⟩)) (some (.int .i64 22)) none none).run Try.prog wx = .ok (.slice (some ⟨g, 22, none⟩) 106 106) wx := fun wx => arr_from 22 (by omega) g wx
  have hs4 := arr_all g
  have HPL := Lib.hid hpl2
  clear hb8 hb9 k9 hpp hpl2 BYK Z1 Z2 hc1 hc2
  go_wp2_with (first | (go_at_call 71; refine (put_ok g 96 22 106 106 c2 (by omega) 4 (by omega) (by omega) p (by rw [HPL.out]; omega) (by rw [HPL.out]; omega) w9 B9.out).mono ?_; rintro e w10 ⟨rfl, b10, k10⟩; have B10 := Lib.hid b10; have KA10 := Lib.hid (KA9.out.trans' k10 (fun i hi e => by omega)); clear b10 k10; have hcv := conv_by B10.out 0 128 128 (Dk.putAt p 22 (le c2 4)) (by rw [Dk.putAt_len (by rw [HPL.out, le_len]; omega), HPL.out]) (fun j c hj => by rw [Nat.zero_add]; exact hj)))
  go_ret
  refine ⟨?_, KA10.out⟩
  unfold hpage strV
  rw [HP.out, HC.out]
  rfl
end Go.Proofs.Ytjcmnobfdidnkaa
