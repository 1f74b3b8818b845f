/- Walks: the head of a page. -/
import Derived.Test.YtjcmnobfdidnkaaKJ3
import Derived.Test.YtjcmnobfdidnkaaKShelf
import Derived.StillTailTactics
import Derived.Laws.ResultCell
import Derived.Laws.Rows
set_option linter.unusedVariables false
set_option linter.unusedSimpArgs false
set_option linter.unusedSectionVars false
namespace Go.Proofs.Ytjcmnobfdidnkaa
open Go.RowKit
set_option maxHeartbeats 2000000
set_option maxRecDepth 4000
theorem count_ok (s : Pg) (hl : s.length ≤ 1000000) (w : World) : Calls Try.prog 51 #[.string ⟨s.toArray⟩, .string ⟨#[0]⟩] w fun e w' => (∃ c : Nat, e = .returned (.int .i64 c) ∧ (c = s.length ↔ zeroP s = true)) ∧ w = w' := by
  refine (Try.strings_Count_one ⟨s.toArray⟩ 0 w).mono ?_
  rintro e w' ⟨rfl, rfl⟩
  refine ⟨⟨_, rfl, ?_⟩, rfl⟩
  show List.count 0 s = s.length ↔ _
  rw [List.count_eq_length]
  unfold zeroP
  rw [List.all_eq_true]
  constructor
  · intro h x hx; rw [← h x hx]; rfl
  · intro h x hx; have := h x hx; exact (by simpa using this : x = 0).symm
theorem undHead : Try.prog.underlying 78 = some (.struct #[]) ∨ ∃ fs, Try.prog.underlying 78 = some (.struct fs) := .inr ⟨_, Try.underlying78⟩
theorem infoHead : (Try.prog.info? 78).map (·.size) = some 5 := by kernel_rfl
def hdC (h : Hd) : Array Value := #[.int .i64 h.seq, .int .i64 h.bank, .int .i64 h.size, .int .i64 h.count, .int .u32 h.sum]
theorem res_hd {fn : Func} {p u : Tmp} (hf : fn.results = #[.cell p 78, .tmp u]) (tmps : Array Value) (w : World) (g : Nat) (h : Hd) (hp : tmps.getD p undef = .pointer (some ⟨g, 0, none⟩)) (hg : w.heap[g]? = some (.cells (hdC h) 78 (0, 0))) :
    (results fn tmps).run Try.prog w = .ok (.tuple #[hdV h, tmps.getD u undef]) w := by
  rw [results_cell_tmp hf, hp]
  have := run_loadVar_row (P := Try.prog) w g 78 78 (hdC h) (0, 0) _ hg Try.underlying78 rfl infoHead
  simp only [asAddr, Sem.run_pure, Result.andThen_ok, this]
  rfl
theorem readH_zero (s : Pg) (hs : s.length = 128) (hz : zeroP s = true) (w : World) : Calls Try.prog 35 #[.string ⟨s.toArray⟩] w fun e w' => e = .returned (.tuple #[hdV hd0, .bool true]) ∧ Kept NoM w w' := by
  have hsz : (⟨s.toArray⟩ : ByteArray).size = 128 := by simp [ByteArray.size, hs]
  go_enter Try.func35, Try.ntmps35
  go_wp2_with (go_at_call 51; refine (count_ok s (by omega) _).mono ?_; rintro e w1 ⟨⟨c, rfl, hc⟩, rfl⟩; obtain rfl : c = 128 := by rw [← hs]; exact hc.2 hz)
  try simp only [Exit.inBlock, Exit.then]
  exact bodyPost_ret (res_hd rfl _ _ w.heap.size hd0 rfl (blk_new w _)) rfl ⟨rfl, (Kept.refl NoM w).alloc _⟩
theorem readH_bad (s : Pg) (hs : s.length = 128) (hz : zeroP s = false) (hb : badP s = true) (w : World) : Calls Try.prog 35 #[.string ⟨s.toArray⟩] w fun e w' => e = .returned (.tuple #[hdV hd0, .bool false]) ∧ Kept NoM w w' := by
  have hsz : (⟨s.toArray⟩ : ByteArray).size = 128 := by simp [ByteArray.size, hs]
  unfold badP at hb
  obtain ⟨c0, hc0⟩ : ∃ c, s[0]? = some c := ⟨s[0], by simp [hs]⟩
  obtain ⟨c127, hc127⟩ : ∃ c, s[127]? = some c := ⟨s[127], by simp [hs]⟩
  have hi0 : (⟨s.toArray⟩ : ByteArray)[0]'(by rw [hsz]; omega) = c0 := (List.getElem?_eq_some_iff.1 hc0).2
  have hi127 : (⟨s.toArray⟩ : ByteArray)[127]'(by rw [hsz]; omega) = c127 := (List.getElem?_eq_some_iff.1 hc127).2
  have hx1 : (⟨s.toArray⟩ : ByteArray).extract 0 22 = ⟨(s.take 22).toArray⟩ := by rw [ByteArray.extract_mk]; rfl
  have hx2 : (⟨s.toArray⟩ : ByteArray).extract 26 128 = ⟨(s.drop 26).toArray⟩ := by
    rw [ByteArray.extract_mk]
    have e : (s.drop 26).take (128 - 26) = s.drop 26 := List.take_of_length_le (by simp; omega)
    rw [e]
  have hx3 : (⟨s.toArray⟩ : ByteArray).extract 22 128 = ⟨(s.drop 22).toArray⟩ := by
    rw [ByteArray.extract_mk]
    have e : (s.drop 22).take (128 - 22) = s.drop 22 := List.take_of_length_le (by simp; omega)
    rw [e]
  have hl1 : (s.take 22).length ≤ 1000000 := by rw [List.length_take]; omega
  have hl2 : (s.drop 26).length ≤ 1000000 := by rw [List.length_drop]; omega
  have hl3 : 4 ≤ (s.drop 22).length ∧ (s.drop 22).length ≤ 1000000 := by rw [List.length_drop]; omega
  obtain ⟨s1, hs1e⟩ : ∃ x, s.take 22 = x := ⟨_, rfl⟩
  obtain ⟨s2, hs2e⟩ : ∃ x, s.drop 26 = x := ⟨_, rfl⟩
  obtain ⟨s3, hs3e⟩ : ∃ x, s.drop 22 = x := ⟨_, rfl⟩
  rw [hs1e] at hx1 hl1
  rw [hs2e] at hx2 hl2
  rw [hs3e] at hx3 hl3
  obtain ⟨k1, hk1⟩ : ∃ c, crc 0 s1 = c := ⟨_, rfl⟩
  obtain ⟨k2, hk2⟩ : ∃ c, crc k1 s2 = c := ⟨_, rfl⟩
  obtain ⟨k3, hk3⟩ : ∃ c, getN (s3.take 4) = c := ⟨_, rfl⟩
  have hk1l : k1 < 4294967296 := by rw [← hk1]; exact crc_lt _ _
  have hk2l : k2 < 4294967296 := by rw [← hk2]; exact crc_lt _ _
  have hsum : hsum s = k2 := by unfold hsum; rw [hs1e, hs2e, hk1, hk2]
  rw [hc0, hc127, hsum, hs3e, hk3] at hb
  simp only [Option.getD_some] at hb
  have hu := wrapU64 k2 (by omega)
  have hzz := fun (c : Nat) (hc : c = s.length ↔ zeroP s = true) => (show ¬ c = 128 from fun e => by rw [hz] at hc; have := hc.1 (by omega); cases this)
  have G3 : Hid (∀ wx, Calls Try.prog 52 #[.string ⟨s3.toArray⟩, .int .i64 4] wx fun e w' => e = .returned (.int .u64 k3) ∧ w' = wx) := Lib.hid (fun wx => by have := get_ok s3 4 (by omega) hl3.1 hl3.2 wx; rw [hk3] at this; exact this.mono fun e w' ⟨h1, h2⟩ => ⟨h1, h2.symm⟩)
  clear hc0 hc127 hs1e hs2e hs3e hsum
  have hq : c0.toNat = 0 ∨ (¬ c0.toNat = 0 ∧ ¬ c0.toNat = c127.toNat) ∨ (¬ c0.toNat = 0 ∧ c0.toNat = c127.toNat ∧ ¬ k2 = k3) := by
    simp only [Bool.or_eq_true, beq_iff_eq, bne_iff_ne, ne_eq] at hb
    have e0 : c0 = 0 ↔ c0.toNat = 0 := by rw [← UInt8.toNat_inj]; rfl
    have e1 : c0 = c127 ↔ c0.toNat = c127.toNat := UInt8.toNat_inj.symm
    rw [e0, e1] at hb
    omega
  clear hb
  go_enter Try.func35, Try.ntmps35
  go_wp2_with fail
  refine (count_ok s (by omega) _).mono ?_
  rintro e w1 ⟨⟨c, rfl, hc⟩, rfl⟩
  have hcz := hzz c hc
  have hcz1 : ((c : Int) == 128) = false := by
    simp
    omega
  have hcz2 : ¬ (c : Int) = 128 := by omega
  clear hc hzz
  go_wp2_with fail
  obtain ⟨W0, hW0⟩ : ∃ W, w.alloc (.cells #[.int .i64 0, .int .i64 0, .int .i64 0, .int .i64 0, .int .u32 0] 78) = W := ⟨_, rfl⟩
  have KW : Hid (Kept NoM w W0) := Lib.hid (by rw [← hW0]; exact (Kept.refl NoM w).alloc _)
  have HB : Hid (W0.heap[w.heap.size]? = some (.cells (hdC hd0) 78 (0, 0))) := Lib.hid (by rw [← hW0]; exact blk_new w _)
  rw [hW0]
  clear hW0
  have Z1 : Hid (∀ wx, Kept NoM W0 wx → Calls Try.prog 44 #[.int .u32 0, .string ⟨s1.toArray⟩] wx fun e w' => e = .returned (.int .u32 k1) ∧ Kept NoM W0 w') := Lib.hid (fun wx k => crc_grow 0 (by omega) s1 hl1 hk1 wx k)
  have Z2 : Hid (∀ wx, Kept NoM W0 wx → Calls Try.prog 44 #[.int .u32 k1, .string ⟨s2.toArray⟩] wx fun e w' => e = .returned (.int .u32 k2) ∧ Kept NoM W0 w') := Lib.hid (fun wx k => crc_grow k1 hk1l s2 hl2 hk2 wx k)
  clear hl1 hl2 hl3 hk1 hk2 hk3 hk1l hk2l
  refine wp_region_grow (by kernel_rfl) (by kernel_rfl) ?_
  refine wpQuiet_step (fun K hK => ?_)
  go_simp
  refine ⟨_, fun _ _ => rfl, hK _ ?_⟩
  clear hK K
  refine wpQuiet_step (fun K hK => ?_)
  go_simp
  refine ⟨_, fun _ _ => rfl, hK _ ?_⟩
  clear hK K
  refine wpQuiet_step (fun K hK => ?_)
  go_simp
  refine ⟨_, fun w' hw' => Z1.out w' hw', hK _ ?_⟩
  clear hK K
  refine wpQuiet_step (fun K hK => ?_)
  go_simp
  refine ⟨_, fun _ _ => rfl, hK _ ?_⟩
  clear hK K
  refine wpQuiet_step (fun K hK => ?_)
  go_simp
  refine ⟨_, fun _ _ => rfl, hK _ ?_⟩
  clear hK K
  refine wpQuiet_step (fun K hK => ?_)
  go_simp
  refine ⟨_, fun w' hw' => Z2.out w' hw', hK _ ?_⟩
  clear hK K
  refine wpQuiet_step (fun K hK => ?_)
  go_simp
  refine ⟨_, fun _ _ => rfl, hK _ ?_⟩
  clear hK K
  refine wpQuiet_nil ?_
  intro W2 k2'
  have HB2 := Lib.hid (k2'.blk HB.out (fun x => x))
  have KW2 := Lib.hid (KW.out.trans k2')
  clear k2' Z1 Z2 HB KW hx1 hx2
  go_wp2_with fail
  have hzl := lt_of_block HB2.out
  rcases hq with h | ⟨h, h'⟩ | ⟨h, h', h''⟩
  · have g1 : ((c0.toNat : Int) == 0) = true := by (simp; omega)
    go_quiet (first | (go_at_call 52; refine Calls.quiet_of_same (G3.out _)))
    go_wp2_with (refine wpList_store_blk rfl 78 _ _ rfl w.heap.size 0 _ _ 78 rfl rfl (show (W2.drewN nq).heap[w.heap.size]? = _ from HB2.out) (by decide) infoHead (by decide) ?_)
    try simp only [Exit.inBlock, Exit.then]
    exact bodyPost_ret (res_hd rfl _ _ w.heap.size hd0 rfl (putB_blk _ _ _ _ hzl)) rfl ⟨rfl, (KW2.out.drewN nq).trans' ((Kept.refl (fun b => b = w.heap.size) _).putM rfl _ _) (fun i hi e => by omega)⟩
  · have g1 : ((c0.toNat : Int) == 0) = false := by (simp; omega)
    have g2 : ((c0.toNat : Int) != c127.toNat) = true := by (simp; omega)
    have g3 : ¬ (c0.toNat : Int) = c127.toNat := by omega
    go_quiet (first | (go_at_call 52; refine Calls.quiet_of_same (G3.out _)))
    go_wp2_with (refine wpList_store_blk rfl 78 _ _ rfl w.heap.size 0 _ _ 78 rfl rfl (show (W2.drewN nq).heap[w.heap.size]? = _ from HB2.out) (by decide) infoHead (by decide) ?_)
    try simp only [Exit.inBlock, Exit.then]
    exact bodyPost_ret (res_hd rfl _ _ w.heap.size hd0 rfl (putB_blk _ _ _ _ hzl)) rfl ⟨rfl, (KW2.out.drewN nq).trans' ((Kept.refl (fun b => b = w.heap.size) _).putM rfl _ _) (fun i hi e => by omega)⟩
  · have g1 : ((c0.toNat : Int) == 0) = false := by (simp; omega)
    have g2 : ((c0.toNat : Int) != c127.toNat) = false := by (simp; omega)
    have g3 : (c0.toNat : Int) = c127.toNat := by omega
    have g1b : ((c127.toNat : Int) == 0) = false := by (simp; omega)
    have g4 : ((k2 : Int) != k3) = true := by (simp; omega)
    have g5 : ¬ (k2 : Int) = k3 := by omega
    go_quiet (first | (go_at_call 52; refine Calls.quiet_of_same (G3.out _)))
    go_wp2_with (refine wpList_store_blk rfl 78 _ _ rfl w.heap.size 0 _ _ 78 rfl rfl (show (W2.drewN nq).heap[w.heap.size]? = _ from HB2.out) (by decide) infoHead (by decide) ?_)
    try simp only [Exit.inBlock, Exit.then]
    exact bodyPost_ret (res_hd rfl _ _ w.heap.size hd0 rfl (putB_blk _ _ _ _ hzl)) rfl ⟨rfl, (KW2.out.drewN nq).trans' ((Kept.refl (fun b => b = w.heap.size) _).putM rfl _ _) (fun i hi e => by omega)⟩
theorem readH_good (s : Pg) (hs : s.length = 128) (hz : zeroP s = false) (hb : badP s = false) (hk : (rdHd s).Ok) (w : World) : Calls Try.prog 35 #[.string ⟨s.toArray⟩] w fun e w' => e = .returned (.tuple #[hdV (rdHd s), .bool true]) ∧ Kept NoM w w' := by
  have hsz : (⟨s.toArray⟩ : ByteArray).size = 128 := by simp [ByteArray.size, hs]
  unfold badP at hb
  obtain ⟨c0, hc0⟩ : ∃ c, s[0]? = some c := ⟨s[0], by simp [hs]⟩
  obtain ⟨c127, hc127⟩ : ∃ c, s[127]? = some c := ⟨s[127], by simp [hs]⟩
  have hi0 : (⟨s.toArray⟩ : ByteArray)[0]'(by rw [hsz]; omega) = c0 := (List.getElem?_eq_some_iff.1 hc0).2
  have hi127 : (⟨s.toArray⟩ : ByteArray)[127]'(by rw [hsz]; omega) = c127 := (List.getElem?_eq_some_iff.1 hc127).2
  have hx1 : (⟨s.toArray⟩ : ByteArray).extract 0 22 = ⟨(s.take 22).toArray⟩ := by rw [ByteArray.extract_mk]; rfl
  have hx2 : (⟨s.toArray⟩ : ByteArray).extract 26 128 = ⟨(s.drop 26).toArray⟩ := by
    rw [ByteArray.extract_mk]
    have e : (s.drop 26).take (128 - 26) = s.drop 26 := List.take_of_length_le (by simp; omega)
    rw [e]
  have hx3 : (⟨s.toArray⟩ : ByteArray).extract 22 128 = ⟨(s.drop 22).toArray⟩ := by
    rw [ByteArray.extract_mk]
    have e : (s.drop 22).take (128 - 22) = s.drop 22 := List.take_of_length_le (by simp; omega)
    rw [e]
  have hl1 : (s.take 22).length ≤ 1000000 := by rw [List.length_take]; omega
  have hl2 : (s.drop 26).length ≤ 1000000 := by rw [List.length_drop]; omega
  have hl3 : 4 ≤ (s.drop 22).length ∧ (s.drop 22).length ≤ 1000000 := by rw [List.length_drop]; omega
  obtain ⟨s1, hs1e⟩ : ∃ x, s.take 22 = x := ⟨_, rfl⟩
  obtain ⟨s2, hs2e⟩ : ∃ x, s.drop 26 = x := ⟨_, rfl⟩
  obtain ⟨s3, hs3e⟩ : ∃ x, s.drop 22 = x := ⟨_, rfl⟩
  rw [hs1e] at hx1 hl1
  rw [hs2e] at hx2 hl2
  rw [hs3e] at hx3 hl3
  obtain ⟨k1, hk1⟩ : ∃ c, crc 0 s1 = c := ⟨_, rfl⟩
  obtain ⟨k2, hk2⟩ : ∃ c, crc k1 s2 = c := ⟨_, rfl⟩
  obtain ⟨k3, hk3⟩ : ∃ c, getN (s3.take 4) = c := ⟨_, rfl⟩
  have hk1l : k1 < 4294967296 := by rw [← hk1]; exact crc_lt _ _
  have hk2l : k2 < 4294967296 := by rw [← hk2]; exact crc_lt _ _
  have hsum : hsum s = k2 := by unfold hsum; rw [hs1e, hs2e, hk1, hk2]
  rw [hc0, hc127, hsum, hs3e, hk3] at hb
  simp only [Option.getD_some] at hb
  have hu := wrapU64 k2 (by omega)
  have hzz := fun (c : Nat) (hc : c = s.length ↔ zeroP s = true) => (show ¬ c = 128 from fun e => by rw [hz] at hc; have := hc.1 (by omega); cases this)
  have G3 : Hid (∀ wx, Calls Try.prog 52 #[.string ⟨s3.toArray⟩, .int .i64 4] wx fun e w' => e = .returned (.int .u64 k3) ∧ w' = wx) := Lib.hid (fun wx => by have := get_ok s3 4 (by omega) hl3.1 hl3.2 wx; rw [hk3] at this; exact this.mono fun e w' ⟨h1, h2⟩ => ⟨h1, h2.symm⟩)
  clear hc0 hc127 hs1e hs2e hs3e hsum
  have hq : ¬ c0.toNat = 0 ∧ c0.toNat = c127.toNat ∧ k2 = k3 := by
    simp only [Bool.or_eq_false_iff, beq_eq_false_iff_ne, bne_eq_false_iff_eq, ne_eq] at hb
    have e0 : c0 = 0 ↔ c0.toNat = 0 := by rw [← UInt8.toNat_inj]; rfl
    have e1 : c0 = c127 ↔ c0.toNat = c127.toNat := UInt8.toNat_inj.symm
    rw [e0, e1] at hb
    omega
  clear hb
  obtain ⟨b1, b2, b3, b4, b5⟩ := hk
  obtain ⟨c9, hc9⟩ : ∃ c, s[9]? = some c := ⟨s[9], by simp [hs]⟩
  have hi9 : (⟨s.toArray⟩ : ByteArray)[9]'(by rw [hsz]; omega) = c9 := (List.getElem?_eq_some_iff.1 hc9).2
  have hdrop : ∀ k, k ≤ 128 → (⟨s.toArray⟩ : ByteArray).extract k 128 = ⟨(s.drop k).toArray⟩ := fun k hk => by
    rw [ByteArray.extract_mk]
    have e : (s.drop k).take (128 - k) = s.drop k := List.take_of_length_le (by simp; omega)
    rw [e]
  have hrd : Hid (rdHd s = ⟨getN ((s.drop 1).take 8), c9.toNat, getN ((s.drop 10).take 4), getN ((s.drop 14).take 4), getN ((s.drop 18).take 4)⟩) := Lib.hid (by unfold rdHd; rw [hc9]; rfl)
  rw [hrd.out] at b1 b2 b3 b4 b5
  simp only at b1 b2 b3 b4 b5
  have hy1 := hdrop 1 (by omega)
  have hz1 : 8 ≤ (s.drop 1).length ∧ (s.drop 1).length ≤ 1000000 := by rw [List.length_drop]; omega
  obtain ⟨t1, ht1⟩ : ∃ x, s.drop 1 = x := ⟨_, rfl⟩
  rw [ht1] at hy1 hz1 hrd b1
  obtain ⟨n1, hn1⟩ : ∃ x, getN (t1.take 8) = x := ⟨_, rfl⟩
  rw [hn1] at hrd b1
  have G1 : Hid (∀ wx, Calls Try.prog 52 #[.string ⟨t1.toArray⟩, .int .i64 8] wx fun e w' => e = .returned (.int .u64 n1) ∧ w' = wx) := Lib.hid (fun wx => by have := get_ok t1 8 (by omega) hz1.1 hz1.2 wx; rw [hn1] at this; exact this.mono fun e w' ⟨h1, h2⟩ => ⟨h1, h2.symm⟩)
  clear hz1 ht1 hn1
  have hy10 := hdrop 10 (by omega)
  have hz10 : 4 ≤ (s.drop 10).length ∧ (s.drop 10).length ≤ 1000000 := by rw [List.length_drop]; omega
  obtain ⟨t10, ht10⟩ : ∃ x, s.drop 10 = x := ⟨_, rfl⟩
  rw [ht10] at hy10 hz10 hrd b3
  obtain ⟨n10, hn10⟩ : ∃ x, getN (t10.take 4) = x := ⟨_, rfl⟩
  rw [hn10] at hrd b3
  have G10 : Hid (∀ wx, Calls Try.prog 52 #[.string ⟨t10.toArray⟩, .int .i64 4] wx fun e w' => e = .returned (.int .u64 n10) ∧ w' = wx) := Lib.hid (fun wx => by have := get_ok t10 4 (by omega) hz10.1 hz10.2 wx; rw [hn10] at this; exact this.mono fun e w' ⟨h1, h2⟩ => ⟨h1, h2.symm⟩)
  clear hz10 ht10 hn10
  have hy14 := hdrop 14 (by omega)
  have hz14 : 4 ≤ (s.drop 14).length ∧ (s.drop 14).length ≤ 1000000 := by rw [List.length_drop]; omega
  obtain ⟨t14, ht14⟩ : ∃ x, s.drop 14 = x := ⟨_, rfl⟩
  rw [ht14] at hy14 hz14 hrd b4
  obtain ⟨n14, hn14⟩ : ∃ x, getN (t14.take 4) = x := ⟨_, rfl⟩
  rw [hn14] at hrd b4
  have G14 : Hid (∀ wx, Calls Try.prog 52 #[.string ⟨t14.toArray⟩, .int .i64 4] wx fun e w' => e = .returned (.int .u64 n14) ∧ w' = wx) := Lib.hid (fun wx => by have := get_ok t14 4 (by omega) hz14.1 hz14.2 wx; rw [hn14] at this; exact this.mono fun e w' ⟨h1, h2⟩ => ⟨h1, h2.symm⟩)
  clear hz14 ht14 hn14
  have hy18 := hdrop 18 (by omega)
  have hz18 : 4 ≤ (s.drop 18).length ∧ (s.drop 18).length ≤ 1000000 := by rw [List.length_drop]; omega
  obtain ⟨t18, ht18⟩ : ∃ x, s.drop 18 = x := ⟨_, rfl⟩
  rw [ht18] at hy18 hz18 hrd b5
  obtain ⟨n18, hn18⟩ : ∃ x, getN (t18.take 4) = x := ⟨_, rfl⟩
  rw [hn18] at hrd b5
  have G18 : Hid (∀ wx, Calls Try.prog 52 #[.string ⟨t18.toArray⟩, .int .i64 4] wx fun e w' => e = .returned (.int .u64 n18) ∧ w' = wx) := Lib.hid (fun wx => by have := get_ok t18 4 (by omega) hz18.1 hz18.2 wx; rw [hn18] at this; exact this.mono fun e w' ⟨h1, h2⟩ => ⟨h1, h2.symm⟩)
  clear hz18 ht18 hn18
  have v1 : IntKind.i64.wrap (n1 : Int) = n1 := IntWalk.i64_in _ (by omega)
  have v9 : IntKind.i64.wrap (c9.toNat : Int) = c9.toNat := IntWalk.i64_in _ (by have := c9.toNat_lt; omega)
  have v10 : IntKind.i64.wrap (n10 : Int) = n10 := IntWalk.i64_in _ (by omega)
  have v14 : IntKind.i64.wrap (n14 : Int) = n14 := IntWalk.i64_in _ (by omega)
  have v18 := wrap32 n18 b5
  clear hdrop hc9
  obtain ⟨h, h', h''⟩ := hq
  obtain rfl : c0 = c127 := UInt8.toNat_inj.1 h'
  subst h''
  clear h'
  go_enter Try.func35, Try.ntmps35
  go_wp2_with fail
  refine (count_ok s (by omega) _).mono ?_
  rintro e w1 ⟨⟨c, rfl, hc⟩, rfl⟩
  have hcz := hzz c hc
  have hcz1 : ((c : Int) == 128) = false := by
    simp
    omega
  have hcz2 : ¬ (c : Int) = 128 := by omega
  clear hc hzz
  go_wp2_with fail
  obtain ⟨W0, hW0⟩ : ∃ W, w.alloc (.cells #[.int .i64 0, .int .i64 0, .int .i64 0, .int .i64 0, .int .u32 0] 78) = W := ⟨_, rfl⟩
  have KW : Hid (Kept NoM w W0) := Lib.hid (by rw [← hW0]; exact (Kept.refl NoM w).alloc _)
  have HB : Hid (W0.heap[w.heap.size]? = some (.cells (hdC hd0) 78 (0, 0))) := Lib.hid (by rw [← hW0]; exact blk_new w _)
  rw [hW0]
  clear hW0
  have Z1 : Hid (∀ wx, Kept NoM W0 wx → Calls Try.prog 44 #[.int .u32 0, .string ⟨s1.toArray⟩] wx fun e w' => e = .returned (.int .u32 k1) ∧ Kept NoM W0 w') := Lib.hid (fun wx k => crc_grow 0 (by omega) s1 hl1 hk1 wx k)
  have Z2 : Hid (∀ wx, Kept NoM W0 wx → Calls Try.prog 44 #[.int .u32 k1, .string ⟨s2.toArray⟩] wx fun e w' => e = .returned (.int .u32 k2) ∧ Kept NoM W0 w') := Lib.hid (fun wx k => crc_grow k1 hk1l s2 hl2 hk2 wx k)
  clear hl1 hl2 hl3 hk1 hk2 hk3 hk1l hk2l
  refine wp_region_grow (by kernel_rfl) (by kernel_rfl) ?_
  refine wpQuiet_step (fun K hK => ?_)
  go_simp
  refine ⟨_, fun _ _ => rfl, hK _ ?_⟩
  clear hK K
  refine wpQuiet_step (fun K hK => ?_)
  go_simp
  refine ⟨_, fun _ _ => rfl, hK _ ?_⟩
  clear hK K
  refine wpQuiet_step (fun K hK => ?_)
  go_simp
  refine ⟨_, fun w' hw' => Z1.out w' hw', hK _ ?_⟩
  clear hK K
  refine wpQuiet_step (fun K hK => ?_)
  go_simp
  refine ⟨_, fun _ _ => rfl, hK _ ?_⟩
  clear hK K
  refine wpQuiet_step (fun K hK => ?_)
  go_simp
  refine ⟨_, fun _ _ => rfl, hK _ ?_⟩
  clear hK K
  refine wpQuiet_step (fun K hK => ?_)
  go_simp
  refine ⟨_, fun w' hw' => Z2.out w' hw', hK _ ?_⟩
  clear hK K
  refine wpQuiet_step (fun K hK => ?_)
  go_simp
  refine ⟨_, fun _ _ => rfl, hK _ ?_⟩
  clear hK K
  refine wpQuiet_nil ?_
  intro W2 k2'
  have HB2 := Lib.hid (k2'.blk HB.out (fun x => x))
  have KW2 := Lib.hid (KW.out.trans k2')
  clear k2' Z1 Z2 HB KW hx1 hx2
  go_wp2_with fail
  have hzl := lt_of_block HB2.out
  have g1 : ((c0.toNat : Int) == 0) = false := by (simp; omega)
  go_quiet (first | (go_at_call 52; refine Calls.quiet_of_same (G3.out _)))
  go_wp2_with fail
  have HB3 : Hid ((W2.drewN nq).heap[w.heap.size]? = some (.cells (hdC hd0) 78 (0, 0))) := HB2
  have KW3 : Hid (Kept NoM w (W2.drewN nq)) := Lib.hid (KW2.out.drewN nq)
  have hzl3 : w.heap.size < (W2.drewN nq).heap.size := hzl
  generalize W2.drewN nq = W3 at *
  refine wp_region_still_tail 20 (by kernel_rfl) (by kernel_rfl) ?_
  simp only [List.take_succ_cons, List.take_zero, List.drop_succ_cons, List.drop_zero]
  still_step
  still_step
  still_call (G1.out _)
  still_step
  still_step
  still_step
  still_step
  still_step
  still_step
  still_call (G10.out _)
  still_step
  still_step
  still_step
  still_call (G14.out _)
  still_step
  still_step
  still_step
  still_call (G18.out _)
  still_step
  still_step
  refine wpStill_nil ?_
  change wpList _ _ _ _ _ W3.drew
  refine wpList_store_blk rfl 78 _ _ rfl w.heap.size 0 (hdC ⟨n1, c9.toNat, n10, n14, n18⟩) (hdC hd0) 78 rfl rfl HB3.out (Nat.le_refl 5) infoHead (by simp [hdC, Value.oneCell']) ?_
  try simp only [Act.put, List.setIfInBounds_toArray, List.set_cons_zero, List.set_cons_succ]
  go_wp2_with fail
  try simp only [Exit.inBlock, Exit.then]
  rw [hrd.out]
  exact bodyPost_ret (res_hd rfl _ _ w.heap.size ⟨n1, c9.toNat, n10, n14, n18⟩ rfl (putB_blk _ _ _ _ hzl3)) rfl ⟨rfl, KW3.out.drew.trans' ((Kept.refl (fun b => b = w.heap.size) _).putM rfl _ _) (fun i hi e => by omega)⟩
/-- THE HEAD OF A PAGE -/
theorem readH_ok (s : Pg) (hs : s.length = 128) (hk : zeroP s = false → badP s = false → (rdHd s).Ok) (w : World) : Calls Try.prog 35 #[.string ⟨s.toArray⟩] w fun e w' => e = .returned (.tuple #[hdV (readH s).1, .bool (readH s).2]) ∧ Kept NoM w w' := by
  unfold readH
  cases hz : zeroP s with
  | true => exact readH_zero s hs hz w
  | false =>
    cases hb : badP s with
    | true => exact readH_bad s hs hz hb w
    | false => exact readH_good s hs hz hb (hk hz hb) w
end Go.Proofs.Ytjcmnobfdidnkaa
