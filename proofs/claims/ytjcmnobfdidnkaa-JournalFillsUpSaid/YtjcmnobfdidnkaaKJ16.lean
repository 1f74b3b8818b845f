/- Walks: a journal is opened. -/
import Derived.Test.YtjcmnobfdidnkaaKJ15
set_option linter.unusedVariables false
set_option linter.unusedSimpArgs false
set_option linter.unusedSectionVars false
namespace Go.Proofs.Ytjcmnobfdidnkaa
open Go.RowKit
set_option maxHeartbeats 4000000
set_option maxRecDepth 4000
/-- the two heads, so many of them read -/
def caO (h0 h1 : Hd) : Nat → Array Value
  | 0 => #[.int .i64 0, .int .i64 0, .int .i64 0, .int .i64 0, .int .u32 0, .int .i64 0, .int .i64 0, .int .i64 0, .int .i64 0, .int .u32 0]
  | 1 => #[.int .i64 h0.seq, .int .i64 h0.bank, .int .i64 h0.size, .int .i64 h0.count, .int .u32 h0.sum, .int .i64 0, .int .i64 0, .int .i64 0, .int .i64 0, .int .u32 0]
  | _ => #[.int .i64 h0.seq, .int .i64 h0.bank, .int .i64 h0.size, .int .i64 h0.count, .int .u32 h0.sum, .int .i64 h1.seq, .int .i64 h1.bank, .int .i64 h1.size, .int .i64 h1.count, .int .u32 h1.sum]
def cbO (g0 g1 : Bool) : Nat → Array Value
  | 0 => #[.bool false, .bool false]
  | 1 => #[.bool g0, .bool false]
  | _ => #[.bool g0, .bool g1]
section
variable {D G B : Nat} {d : Dk}
theorem two_opn {w W : World} {a b : Nat} {ca cb : Array Value} {ta tb : TypeId} (k : Kept NoM w W) (hA : W.heap[a]? = some (.cells ca ta (0, 0))) (hB : W.heap[b]? = some (.cells cb tb (0, 0))) :
    ∃ w9, W = putB (putB w9 b cb tb) a ca ta ∧ Kept NoM w w9 ∧ a < w9.heap.size ∧ b < w9.heap.size :=
  ⟨W, by rw [← putB_self hB]; exact putB_self hA, k, lt_of_block hA, lt_of_block hB⟩
theorem open_small (w : World) (p : PD w D G B d) (h4 : d.n < 4) : Calls Try.prog 11 #[.pointer (some ⟨D, 0, none⟩)] w fun e w' => e = .returned (.tuple #[.pointer none, .int .i64 1]) ∧ w = w' := by
  have LN := Lib.hid (len_ok w p)
  have f1 : ((d.n : Nat) : Int) < 4 := by omega
  clear p
  go_enter Try.func11, Try.ntmps11
  go_wp2_with (go_at_call 33; refine LN.out.mono ?_; rintro e w' ⟨rfl, rfl⟩)
  go_ret2
  exact ⟨rfl, rfl⟩
theorem readH_Ok {s : Pg} (h : zeroP s = false → badP s = false → (rdHd s).Ok) : (readH s).1.Ok := by
  unfold readH
  cases hz : zeroP s with
  | true => rw [if_pos rfl]; exact ⟨by unfold hd0; decide, by unfold hd0; decide, by unfold hd0; decide, by unfold hd0; decide, by unfold hd0; decide⟩
  | false =>
    rw [if_neg (by simp)]
    cases hb : badP s with
    | true => rw [if_pos rfl]; exact ⟨by unfold hd0; decide, by unfold hd0; decide, by unfold hd0; decide, by unfold hd0; decide, by unfold hd0; decide⟩
    | false => rw [if_neg (by simp)]; exact h hz hb
theorem eqB_iff {a b : Hd} : a.eqB b = true ↔ a = b := by
  obtain ⟨a1, a2, a3, a4, a5⟩ := a
  obtain ⟨b1, b2, b3, b4, b5⟩ := b
  unfold Hd.eqB
  simp [and_assoc]
theorem eqB_no {a b : Hd} (h : a.eqB b = false) : (¬ (a.seq : Int) = b.seq) ∨ ((a.seq : Int) = b.seq ∧ ¬ (a.bank : Int) = b.bank) ∨ ((a.seq : Int) = b.seq ∧ (a.bank : Int) = b.bank ∧ ¬ (a.size : Int) = b.size) ∨
    ((a.seq : Int) = b.seq ∧ (a.bank : Int) = b.bank ∧ (a.size : Int) = b.size ∧ ¬ (a.count : Int) = b.count) ∨ ((a.seq : Int) = b.seq ∧ (a.bank : Int) = b.bank ∧ (a.size : Int) = b.size ∧ (a.count : Int) = b.count ∧ ¬ (a.sum : Int) = b.sum) := by
  have h2 : ¬ a = b := fun e => by rw [eqB_iff.2 e] at h; cases h
  obtain ⟨a1, a2, a3, a4, a5⟩ := a
  obtain ⟨b1, b2, b3, b4, b5⟩ := b
  simp only [Hd.mk.injEq] at h2
  simp only
  omega
theorem jnew_cases (d : Dk) : jnew d = 0 ∨ jnew d = 1 := by unfold jnew; split <;> simp
theorem jhead_eq (d : Dk) : jhead d = if jnew d = 1 then (readH (d.now 1)).1 else (readH (d.now 0)).1 := by
  unfold jhead
  rcases jnew_cases d with h | h <;> rw [h] <;> rfl
theorem jmend_eq (d : Dk) : jmend d = if jnew d = 1 then (!(readH (d.now 0)).2 || !(readH (d.now 0)).1.eqB (readH (d.now 1)).1) else (!(readH (d.now 1)).2 || !(readH (d.now 1)).1.eqB (readH (d.now 0)).1) := by
  unfold jmend jhead
  rcases jnew_cases d with h | h <;> rw [h] <;> rfl
section
variable (h4 : ¬ d.n < 4) (hup : d.off = false)
include h4 hup
theorem jopen1 (h : (!(readH (d.now 0)).2 && !(readH (d.now 1)).2) = true) : jopenE d = 7 ∧ jopenD d = d := by
  unfold jopenE jopenD
  simp only [if_neg h4, hup, Bool.false_eq_true, if_false, h, if_true,  and_self]
theorem jopen2 (h : (!(readH (d.now 0)).2 && !(readH (d.now 1)).2) = false) (hl : jload d (jhead d) = none) : jopenE d = 7 ∧ jopenD d = d := by
  unfold jopenE jopenD
  simp only [if_neg h4, hup, Bool.false_eq_true, if_false, h, if_true, hl, and_self]
theorem jopen3 (h : (!(readH (d.now 0)).2 && !(readH (d.now 1)).2) = false) {l : List Pg} (hl : jload d (jhead d) = some l) (hm : jmend d = false) : jopenE d = 0 ∧ jopenD d = d := by
  unfold jopenE jopenD
  simp only [if_neg h4, hup, Bool.false_eq_true, if_false, h, if_true, hl, hm, and_self]
theorem jopen4 (h : (!(readH (d.now 0)).2 && !(readH (d.now 1)).2) = false) {l : List Pg} (hl : jload d (jhead d) = some l) (hm : jmend d = true) : jopenE d = (jwrite d (jhead d) (1 - jnew d)).2 ∧ jopenD d = (jwrite d (jhead d) (1 - jnew d)).1 := by
  unfold jopenE jopenD
  simp only [if_neg h4, hup, Bool.false_eq_true, if_false, h, if_true, hl, hm, and_self]
end
theorem open_ok (h4 : 4 ≤ d.n) (hok : ∀ i, i < 2 → zeroP (d.now i) = false → badP (d.now i) = false → (rdHd (d.now i)).Ok) (hup : d.off = false) (w : World) (p : PD w D G B d) :
    Calls Try.prog 11 #[.pointer (some ⟨D, 0, none⟩)] w fun e w' => (jopenE d ≠ 0 ∧ e = .returned (.tuple #[.pointer none, .int .i64 (jopenE d)]) ∧ PD w' D G B (jopenD d) ∧ Kept (InD D G B) w w') ∨
      (jopenE d = 0 ∧ ∃ J l, e = .returned (.tuple #[.pointer (some ⟨J, 0, none⟩), .int .i64 0]) ∧ jload d (jhead d) = some l ∧ JS w' J D G B (jopenD d) (jhead d) l false ∧ w.heap.size ≤ J ∧ Kept (InD D G B) w w') := by
  suffices hQ : ∀ Q : Ending → World → Prop, (∀ w' E dd, jopenE d = E → E ≠ 0 → jopenD d = dd → PD w' D G B dd → Kept (InD D G B) w w' → Q (.returned (.tuple #[.pointer none, .int .i64 E])) w') →
      (∀ w' J l dd, jopenE d = 0 → jopenD d = dd → jload d (jhead d) = some l → JS w' J D G B dd (jhead d) l false → w.heap.size ≤ J → Kept (InD D G B) w w' → Q (.returned (.tuple #[.pointer (some ⟨J, 0, none⟩), .int .i64 0])) w') →
      Calls Try.prog 11 #[.pointer (some ⟨D, 0, none⟩)] w fun e w' => Q e w' ∧ True by
    refine (hQ _ (fun w' E dd h1 h2 h3 h4 h5 => ?_) (fun w' J l dd h1 h2 h3 h4 h5 h6 => ?_)).mono (fun _ _ h => h.1)
    · subst h1; subst h3; exact .inl ⟨h2, rfl, h4, h5⟩
    · subst h2; exact .inr ⟨h1, J, l, rfl, h3, h4, h5, h6⟩
  intro Q qf qs
  have QF := Lib.hid qf
  have QS := Lib.hid qs
  clear qf qs
  have O0 := Lib.hid (readH_Ok (hok 0 (by omega)))
  have O1 := Lib.hid (readH_Ok (hok 1 (by omega)))
  have NW := Lib.hid (show jnew d = if !(readH (d.now 0)).2 || (readH (d.now 1)).2 && decide ((readH (d.now 0)).1.seq < (readH (d.now 1)).1.seq) then 1 else 0 from rfl)
  have HH := Lib.hid (jhead_eq d)
  have MM := Lib.hid (jmend_eq d)
  have OP1 := Lib.hid (jopen1 (d := d) (by omega) hup)
  have OP2 := Lib.hid (jopen2 (d := d) (by omega) hup)
  have OP3 := Lib.hid (fun h l => @jopen3 d (by omega) hup h l)
  have OP4 := Lib.hid (fun h l => @jopen4 d (by omega) hup h l)
  have LN := Lib.hid (len_ok w p)
  have f1 : ¬ ((d.n : Nat) : Int) < 4 := by omega
  have HP := Lib.hid p
  have RD : Hid (∀ k : Nat, k < 2 → ∀ wx, Kept NoM w wx → Calls Try.prog 34 #[.pointer (some ⟨D, 0, none⟩), .int .i64 k] wx fun e w' => e = .returned (.tuple #[.string ⟨(d.now k).toArray⟩, .int .i64 0]) ∧ Kept NoM wx w') := Lib.hid (fun k hk wx kx => by
    have r := read_ok (k : Int) wx (HP.out.kept0 kx)
    obtain ⟨r1, r2⟩ := Dk.readS_up hup (show k < d.n by omega)
    rw [r1, r2] at r
    exact r)
  have RH : Hid (∀ k : Nat, k < 2 → ∀ wx, Calls Try.prog 35 #[.string ⟨(d.now k).toArray⟩] wx fun e w' => e = .returned (.tuple #[hdV (readH (d.now k)).1, .bool (readH (d.now k)).2]) ∧ Kept NoM wx w') := Lib.hid (fun k hk wx => readH_ok _ (HP.out.wf.now_len (by omega)) (hok k hk) wx)
  clear p
  go_enter Try.func11, Try.ntmps11
  go_wp2_with (go_at_call 33; refine LN.out.mono ?_; rintro e w' ⟨rfl, rfl⟩)
  have HA0 : ((w.alloc (.cells #[.int .i64 0, .int .i64 0, .int .i64 0, .int .i64 0, .int .u32 0, .int .i64 0, .int .i64 0, .int .i64 0, .int .i64 0, .int .u32 0] 79)).alloc (.cells #[.bool false, .bool false] 80)).heap[w.heap.size]? = some (.cells (caO hd0 hd0 0) 79 (0, 0)) := blk_old (blk_new _ _) _
  have HB0 : ((w.alloc (.cells #[.int .i64 0, .int .i64 0, .int .i64 0, .int .i64 0, .int .u32 0, .int .i64 0, .int .i64 0, .int .i64 0, .int .i64 0, .int .u32 0] 79)).alloc (.cells #[.bool false, .bool false] 80)).heap[w.heap.size + 1]? = some (.cells (cbO false false 0) 80 (0, 0)) := blk_new' _ _ _ (by simp)
  have K0 : Kept NoM w ((w.alloc (.cells #[.int .i64 0, .int .i64 0, .int .i64 0, .int .i64 0, .int .u32 0, .int .i64 0, .int .i64 0, .int .i64 0, .int .i64 0, .int .u32 0] 79)).alloc (.cells #[.bool false, .bool false] 80)) := ((Kept.refl _ _).alloc _).alloc _
  obtain ⟨W0, hW0⟩ : ∃ W0, ((w.alloc (.cells #[.int .i64 0, .int .i64 0, .int .i64 0, .int .i64 0, .int .u32 0, .int .i64 0, .int .i64 0, .int .i64 0, .int .i64 0, .int .u32 0] 79)).alloc (.cells #[.bool false, .bool false] 80)) = W0 := ⟨_, rfl⟩
  obtain ⟨a, ha⟩ : ∃ a, w.heap.size = a := ⟨_, rfl⟩
  obtain ⟨b, hb⟩ : ∃ b, w.heap.size + 1 = b := ⟨_, rfl⟩
  rw [hW0] at HA0 HB0 K0 ⊢
  rw [hb] at HB0 ⊢
  rw [ha] at HA0 ⊢
  have HAB := Lib.hid (And.intro ha hb)
  have hab : a < b := by omega
  have R0 := Lib.hid (RH.out 0 (by omega))
  have R1 := Lib.hid (RH.out 1 (by omega))
  have RD0 := Lib.hid (RD.out 0 (by omega))
  have RD1 := Lib.hid (RD.out 1 (by omega))
  unfold hdV at R0 R1
  generalize d.now 0 = p0 at *
  generalize d.now 1 = p1 at *
  generalize (readH p0).1 = h0 at *
  generalize (readH p0).2 = g0 at *
  generalize (readH p1).1 = h1 at *
  generalize (readH p1).2 = g1 at *
  clear hW0 ha hb RH RD hok LN f1
  go_loopw [17] (fun i wr => ∃ k : Nat, k ≤ 2 ∧ i = .int .i64 k ∧ wr.heap[a]? = some (.cells (caO h0 h1 k) 79 (0, 0)) ∧ wr.heap[b]? = some (.cells (cbO g0 g1 k) 80 (0, 0)) ∧ Kept NoM w wr) (fun i _ => 2 - (intOf i).toNat)
  case atStart => exact ⟨0, by omega, rfl, HA0, HB0, K0⟩
  case round =>
    obtain ⟨k, hk, rfl, hA, hB, hK⟩ := hrel
    have HK := Lib.hid hK
    have HA := Lib.hid hA
    have HB := Lib.hid hB
    clear hA hB hK HA0 HB0 K0
    rcases (show k = 0 ∨ k = 1 ∨ k = 2 by omega) with rfl | rfl | rfl
    · have RK := Lib.hid (RD0.out wr HK.out)
      go_wp2_with (first | (go_at_call 34; refine RK.out.mono ?_; rintro e w1 ⟨rfl, k1⟩; have K1 := Lib.hid k1; clear k1) | (go_at_call 35; refine (R0.out _).mono ?_; rintro e w2 ⟨rfl, k2⟩; obtain ⟨w9, e9, kk, la, lb⟩ := two_opn (HK.out.trans (K1.out.trans k2)) ((K1.out.trans k2).blk HA.out (fun x => x)) ((K1.out.trans k2).blk HB.out (fun x => x)); rw [e9]; have KK := Lib.hid kk; clear e9 k2 kk; unfold caO cbO))
      go_roundw
      case rel => exact ⟨1, by omega, rfl, putB_blk _ _ _ _ (by simpa using la), by rw [putB_blk_ne _ _ _ _ _ (by omega)]; exact putB_blk _ _ _ _ lb, (KK.out.putN (by have := HAB.out; omega) _ _).putN (by have := HAB.out; omega) _ _⟩
      case measure => decide
    · have RK := Lib.hid (RD1.out wr HK.out)
      go_wp2_with (first | (go_at_call 34; refine RK.out.mono ?_; rintro e w1 ⟨rfl, k1⟩; have K1 := Lib.hid k1; clear k1) | (go_at_call 35; refine (R1.out _).mono ?_; rintro e w2 ⟨rfl, k2⟩; obtain ⟨w9, e9, kk, la, lb⟩ := two_opn (HK.out.trans (K1.out.trans k2)) ((K1.out.trans k2).blk HA.out (fun x => x)) ((K1.out.trans k2).blk HB.out (fun x => x)); rw [e9]; have KK := Lib.hid kk; clear e9 k2 kk; unfold caO cbO))
      go_roundw
      case rel => exact ⟨2, by omega, rfl, putB_blk _ _ _ _ (by simpa using la), by rw [putB_blk_ne _ _ _ _ _ (by omega)]; exact putB_blk _ _ _ _ lb, (KK.out.putN (by have := HAB.out; omega) _ _).putN (by have := HAB.out; omega) _ _⟩
      case measure => decide
    · skip
      have HA : Hid (wr.heap[a]? = some (.cells #[.int .i64 h0.seq, .int .i64 h0.bank, .int .i64 h0.size, .int .i64 h0.count, .int .u32 h0.sum, .int .i64 h1.seq, .int .i64 h1.bank, .int .i64 h1.size, .int .i64 h1.count, .int .u32 h1.sum] 79 (0, 0))) := HA
      have HB : Hid (wr.heap[b]? = some (.cells #[.bool g0, .bool g1] 80 (0, 0))) := HB
      have HAL := Lib.hid (And.intro (lt_of_block HA.out) (lt_of_block HB.out))
      have CA : Hid (∀ M w', Kept M wr w' → ¬ M a → ¬ M b → (w'.cell? ⟨a, 0, none⟩ = some (.int .i64 h0.seq) ∧ w'.cell? ⟨a, 1, none⟩ = some (.int .i64 h0.bank) ∧ w'.cell? ⟨a, 2, none⟩ = some (.int .i64 h0.size) ∧ w'.cell? ⟨a, 3, none⟩ = some (.int .i64 h0.count) ∧ w'.cell? ⟨a, 4, none⟩ = some (.int .u32 h0.sum)) ∧ (w'.cell? ⟨a, 5, none⟩ = some (.int .i64 h1.seq) ∧ w'.cell? ⟨a, 6, none⟩ = some (.int .i64 h1.bank) ∧ w'.cell? ⟨a, 7, none⟩ = some (.int .i64 h1.size) ∧ w'.cell? ⟨a, 8, none⟩ = some (.int .i64 h1.count) ∧ w'.cell? ⟨a, 9, none⟩ = some (.int .u32 h1.sum)) ∧ w'.cell? ⟨b, 0, none⟩ = some (.bool g0) ∧ w'.cell? ⟨b, 1, none⟩ = some (.bool g1)) := Lib.hid (fun M w' k m1 m2 => by
        have q1 := k.blk HA.out m1
        have q2 := k.blk HB.out m2
        exact ⟨⟨cell_blk q1 0 _ rfl, cell_blk q1 1 _ rfl, cell_blk q1 2 _ rfl, cell_blk q1 3 _ rfl, cell_blk q1 4 _ rfl⟩, ⟨cell_blk q1 5 _ rfl, cell_blk q1 6 _ rfl, cell_blk q1 7 _ rfl, cell_blk q1 8 _ rfl, cell_blk q1 9 _ rfl⟩, cell_blk q2 0 _ rfl, cell_blk q2 1 _ rfl⟩)
      clear HA HB
      obtain ⟨⟨y0, y1, y2, y3, y4⟩, ⟨y5, y6, y7, y8, y9⟩, z0, z1⟩ := CA.out NoM wr (Kept.refl _ _) (fun x => x) (fun x => x)
      have HKP := Lib.hid (HP.out.kept0 HK.out)
      cases g0 <;> cases g1
      · have JN := Lib.hid (OP1.out (by simp))
        go_wp2_with fail
        first
        | exact QF.out _ 7 d JN.out.1 (by decide) JN.out.2 HKP.out HK.out.of_no
        | (go_ret2; exact ⟨QF.out _ 7 d JN.out.1 (by decide) JN.out.2 HKP.out HK.out.of_no, trivial⟩)
      · skip
        have hN : jnew d = 1 := by rw [NW.out]; simp
        have hH : jhead d = h1 := by rw [HH.out, hN]; rfl
        have hM : jmend d = (!false || !h0.eqB h1) := by rw [MM.out, hN]; rfl
        have OP2 := Lib.hid (OP2.out (by simp)); have OP3 := Lib.hid (OP3.out (by simp)); have OP4 := Lib.hid (OP4.out (by simp))
        rw [hH] at OP2 OP3 OP4; rw [hN] at OP4
        have HHH := Lib.hid hH
        have HM := Lib.hid hM
        clear hN hH hM
        have ok : h1.Ok := O1.out
        have OX := Lib.hid ok
        obtain ⟨k1, k2, k3, k4, k5⟩ := ok
        have f3 : (h1.seq : Int) ≤ 9223372036854775807 := by omega
        rcases hl : jload d h1 with _ | l
        · have hJ0 : (wr.alloc (.cells (jC D h1 (.slice none 0 0) false) 86)).heap[wr.heap.size]? = some (.cells (jC D h1 (.slice none 0 0) false) 86 (0, 0)) := blk_new _ _
          have LD := load_ok (h := h1) (J := wr.heap.size) h4 hup k2 k3 k4 k5 (wr.alloc (.cells (jC D h1 (.slice none 0 0) false) 86)) (HKP.out.kept0 ((Kept.refl _ _).alloc _)) (fun e => by have := HKP.out.lt; unfold InD at e; omega) hJ0
          unfold jC at LD
          have LD1 := Lib.hid (LD.mono (R' := fun e w' => e = .returned (.int .i64 7) ∧ Kept (fun i => i = wr.heap.size) (wr.alloc (.cells #[.pointer (some ⟨D, 0, none⟩), .int .i64 h1.seq, .int .i64 h1.bank, .int .i64 h1.size, .int .i64 h1.count, .int .u32 h1.sum, .slice none 0 0, .bool false] 86)) w') (fun e w' h => by rcases h with ⟨q1, _, q2⟩ | ⟨l, _, q, _⟩; exact ⟨q1, q2⟩; rw [hl] at q; cases q))
          clear LD hJ0 k1 k2 k3 k4 k5
          have JN := Lib.hid (OP2.out hl)
          clear hl OP2 OP3 OP4
          go_wp2_with (go_at_call 36; refine LD1.out.mono ?_; rintro e w3 ⟨rfl, q3⟩; have K3 : Hid (Kept NoM w w3) := Lib.hid (HK.out.trans (((Kept.refl NoM wr).alloc _).trans' q3 (fun i hi e => absurd e (Nat.ne_of_lt hi)))); clear q3)
          first
          | exact QF.out _ 7 d JN.out.1 (by decide) JN.out.2 (HP.out.kept0 K3.out) K3.out.of_no
          | (go_ret2; exact ⟨QF.out _ 7 d JN.out.1 (by decide) JN.out.2 (HP.out.kept0 K3.out) K3.out.of_no, trivial⟩)
        · have hJ0 : (wr.alloc (.cells (jC D h1 (.slice none 0 0) false) 86)).heap[wr.heap.size]? = some (.cells (jC D h1 (.slice none 0 0) false) 86 (0, 0)) := blk_new _ _
          have LD := load_ok (h := h1) (J := wr.heap.size) h4 hup k2 k3 k4 k5 (wr.alloc (.cells (jC D h1 (.slice none 0 0) false) 86)) (HKP.out.kept0 ((Kept.refl _ _).alloc _)) (fun e => by have := HKP.out.lt; unfold InD at e; omega) hJ0
          unfold jC at LD
          have LD1 := Lib.hid (LD.mono (R' := fun e w' => e = .returned (.int .i64 0) ∧ JS w' wr.heap.size D G B d h1 l false ∧ Kept (fun i => i = wr.heap.size) (wr.alloc (.cells #[.pointer (some ⟨D, 0, none⟩), .int .i64 h1.seq, .int .i64 h1.bank, .int .i64 h1.size, .int .i64 h1.count, .int .u32 h1.sum, .slice none 0 0, .bool false] 86)) w') (fun e w' h => by rcases h with ⟨_, q, _⟩ | ⟨l9, q1, q2, q3, q4⟩; rw [hl] at q; cases q; rw [hl] at q2; cases q2; exact ⟨q1, q3, q4⟩))
          clear LD hJ0 k1 k2 k3 k4 k5
          have OP3 := Lib.hid (OP3.out l hl)
          have OP4 := Lib.hid (OP4.out l hl)
          have HL := Lib.hid hl
          clear hl OP2
          go_wp2_with (go_at_call 36; refine LD1.out.mono ?_; rintro e w3 ⟨rfl, js3, q3⟩; have JS3 := Lib.hid js3; have K4 : Hid (Kept NoM wr w3) := Lib.hid (((Kept.refl NoM wr).alloc _).trans' q3 (fun i hi e => absurd e (Nat.ne_of_lt hi))); clear q3 js3)
          obtain ⟨⟨v0, v1, v2, v3, v4⟩, ⟨v5, v6, v7, v8, v9⟩, u0, u1⟩ := CA.out NoM w3 K4.out (fun x => x) (fun x => x)
          clear y0 y1 y2 y3 y4 y5 y6 y7 y8 y9 z0 z1
          obtain ⟨aj, cj, c0, c1, c2, c3, c4, c5, c6, c7, hrj⟩ := JS3.out.cells
          clear hrj
          have HJW : Hid (w.heap.size ≤ wr.heap.size) := Lib.hid HK.out.size
          generalize wr.heap.size = J at *
          have JN := Lib.hid (OP4.out (by rw [HM.out]; simp))
          go_quiet (fail)
          have WR := jwrite_ok 0 (by omega) (by omega) OX.out (w3.drewN nq) (JS3.out.kept0 ((Kept.refl _ _).drewN _))
          have e10 : 1 - 1 = 0 := rfl
          obtain ⟨E, hE9⟩ : ∃ E, (jwrite d h1 0).2 = E := ⟨_, rfl⟩
          obtain ⟨dd, hd9⟩ : ∃ dd, (jwrite d h1 0).1 = dd := ⟨_, rfl⟩
          rw [hE9, hd9] at WR
          have WR := Lib.hid WR
          have JN1 : Hid (jopenE d = E ∧ jopenD d = dd) := Lib.hid ⟨by rw [JN.out.1]; exact hE9, by rw [JN.out.2]; exact hd9⟩
          clear hE9 hd9 e10 JN OP3 OP4
          by_cases hE0 : E = 0
          · subst hE0
            go_wp2_with (go_at_call 37; refine WR.out.mono ?_; rintro e w5 ⟨rfl, js5, k5⟩; have JS5 := Lib.hid js5; have K5 := Lib.hid k5; clear js5 k5)
            first
            | exact QS.out _ _ _ _ JN1.out.1 JN1.out.2 (by rw [HHH.out]; exact HL.out) (by rw [HHH.out]; exact JS5.out) HJW.out (((HK.out.trans K4.out).drewN _).of_no.trans K5.out)
            | (go_ret2; exact ⟨QS.out _ _ _ _ JN1.out.1 JN1.out.2 (by rw [HHH.out]; exact HL.out) (by rw [HHH.out]; exact JS5.out) HJW.out (((HK.out.trans K4.out).drewN _).of_no.trans K5.out), trivial⟩)
          · have f11 : ¬ E = 0 := hE0
            clear hE0
            go_wp2_with (go_at_call 37; refine WR.out.mono ?_; rintro e w5 ⟨rfl, js5, k5⟩; have JS5 := Lib.hid js5; have K5 := Lib.hid k5; clear js5 k5)
            first
            | exact QF.out _ E dd JN1.out.1 f11 JN1.out.2 JS5.out.p (((HK.out.trans K4.out).drewN _).of_no.trans K5.out)
            | (go_ret2; exact ⟨QF.out _ E dd JN1.out.1 f11 JN1.out.2 JS5.out.p (((HK.out.trans K4.out).drewN _).of_no.trans K5.out), trivial⟩)
      · skip
        have hN : jnew d = 0 := by rw [NW.out]; simp
        have hH : jhead d = h0 := by rw [HH.out, hN]; rfl
        have hM : jmend d = (!false || !h1.eqB h0) := by rw [MM.out, hN]; rfl
        have OP2 := Lib.hid (OP2.out (by simp)); have OP3 := Lib.hid (OP3.out (by simp)); have OP4 := Lib.hid (OP4.out (by simp))
        rw [hH] at OP2 OP3 OP4; rw [hN] at OP4
        have HHH := Lib.hid hH
        have HM := Lib.hid hM
        clear hN hH hM
        have ok : h0.Ok := O0.out
        have OX := Lib.hid ok
        obtain ⟨k1, k2, k3, k4, k5⟩ := ok
        have f3 : (h0.seq : Int) ≤ 9223372036854775807 := by omega
        rcases hl : jload d h0 with _ | l
        · have hJ0 : (wr.alloc (.cells (jC D h0 (.slice none 0 0) false) 86)).heap[wr.heap.size]? = some (.cells (jC D h0 (.slice none 0 0) false) 86 (0, 0)) := blk_new _ _
          have LD := load_ok (h := h0) (J := wr.heap.size) h4 hup k2 k3 k4 k5 (wr.alloc (.cells (jC D h0 (.slice none 0 0) false) 86)) (HKP.out.kept0 ((Kept.refl _ _).alloc _)) (fun e => by have := HKP.out.lt; unfold InD at e; omega) hJ0
          unfold jC at LD
          have LD1 := Lib.hid (LD.mono (R' := fun e w' => e = .returned (.int .i64 7) ∧ Kept (fun i => i = wr.heap.size) (wr.alloc (.cells #[.pointer (some ⟨D, 0, none⟩), .int .i64 h0.seq, .int .i64 h0.bank, .int .i64 h0.size, .int .i64 h0.count, .int .u32 h0.sum, .slice none 0 0, .bool false] 86)) w') (fun e w' h => by rcases h with ⟨q1, _, q2⟩ | ⟨l, _, q, _⟩; exact ⟨q1, q2⟩; rw [hl] at q; cases q))
          clear LD hJ0 k1 k2 k3 k4 k5
          have JN := Lib.hid (OP2.out hl)
          clear hl OP2 OP3 OP4
          go_wp2_with (go_at_call 36; refine LD1.out.mono ?_; rintro e w3 ⟨rfl, q3⟩; have K3 : Hid (Kept NoM w w3) := Lib.hid (HK.out.trans (((Kept.refl NoM wr).alloc _).trans' q3 (fun i hi e => absurd e (Nat.ne_of_lt hi)))); clear q3)
          first
          | exact QF.out _ 7 d JN.out.1 (by decide) JN.out.2 (HP.out.kept0 K3.out) K3.out.of_no
          | (go_ret2; exact ⟨QF.out _ 7 d JN.out.1 (by decide) JN.out.2 (HP.out.kept0 K3.out) K3.out.of_no, trivial⟩)
        · have hJ0 : (wr.alloc (.cells (jC D h0 (.slice none 0 0) false) 86)).heap[wr.heap.size]? = some (.cells (jC D h0 (.slice none 0 0) false) 86 (0, 0)) := blk_new _ _
          have LD := load_ok (h := h0) (J := wr.heap.size) h4 hup k2 k3 k4 k5 (wr.alloc (.cells (jC D h0 (.slice none 0 0) false) 86)) (HKP.out.kept0 ((Kept.refl _ _).alloc _)) (fun e => by have := HKP.out.lt; unfold InD at e; omega) hJ0
          unfold jC at LD
          have LD1 := Lib.hid (LD.mono (R' := fun e w' => e = .returned (.int .i64 0) ∧ JS w' wr.heap.size D G B d h0 l false ∧ Kept (fun i => i = wr.heap.size) (wr.alloc (.cells #[.pointer (some ⟨D, 0, none⟩), .int .i64 h0.seq, .int .i64 h0.bank, .int .i64 h0.size, .int .i64 h0.count, .int .u32 h0.sum, .slice none 0 0, .bool false] 86)) w') (fun e w' h => by rcases h with ⟨_, q, _⟩ | ⟨l9, q1, q2, q3, q4⟩; rw [hl] at q; cases q; rw [hl] at q2; cases q2; exact ⟨q1, q3, q4⟩))
          clear LD hJ0 k1 k2 k3 k4 k5
          have OP3 := Lib.hid (OP3.out l hl)
          have OP4 := Lib.hid (OP4.out l hl)
          have HL := Lib.hid hl
          clear hl OP2
          go_wp2_with (go_at_call 36; refine LD1.out.mono ?_; rintro e w3 ⟨rfl, js3, q3⟩; have JS3 := Lib.hid js3; have K4 : Hid (Kept NoM wr w3) := Lib.hid (((Kept.refl NoM wr).alloc _).trans' q3 (fun i hi e => absurd e (Nat.ne_of_lt hi))); clear q3 js3)
          obtain ⟨⟨v0, v1, v2, v3, v4⟩, ⟨v5, v6, v7, v8, v9⟩, u0, u1⟩ := CA.out NoM w3 K4.out (fun x => x) (fun x => x)
          clear y0 y1 y2 y3 y4 y5 y6 y7 y8 y9 z0 z1
          obtain ⟨aj, cj, c0, c1, c2, c3, c4, c5, c6, c7, hrj⟩ := JS3.out.cells
          clear hrj
          have HJW : Hid (w.heap.size ≤ wr.heap.size) := Lib.hid HK.out.size
          generalize wr.heap.size = J at *
          have JN := Lib.hid (OP4.out (by rw [HM.out]; simp))
          go_quiet (fail)
          have WR := jwrite_ok 1 (by omega) (by omega) OX.out (w3.drewN nq) (JS3.out.kept0 ((Kept.refl _ _).drewN _))
          have e10 : 1 - 0 = 1 := rfl
          obtain ⟨E, hE9⟩ : ∃ E, (jwrite d h0 1).2 = E := ⟨_, rfl⟩
          obtain ⟨dd, hd9⟩ : ∃ dd, (jwrite d h0 1).1 = dd := ⟨_, rfl⟩
          rw [hE9, hd9] at WR
          have WR := Lib.hid WR
          have JN1 : Hid (jopenE d = E ∧ jopenD d = dd) := Lib.hid ⟨by rw [JN.out.1]; exact hE9, by rw [JN.out.2]; exact hd9⟩
          clear hE9 hd9 e10 JN OP3 OP4
          by_cases hE0 : E = 0
          · subst hE0
            go_wp2_with (go_at_call 37; refine WR.out.mono ?_; rintro e w5 ⟨rfl, js5, k5⟩; have JS5 := Lib.hid js5; have K5 := Lib.hid k5; clear js5 k5)
            first
            | exact QS.out _ _ _ _ JN1.out.1 JN1.out.2 (by rw [HHH.out]; exact HL.out) (by rw [HHH.out]; exact JS5.out) HJW.out (((HK.out.trans K4.out).drewN _).of_no.trans K5.out)
            | (go_ret2; exact ⟨QS.out _ _ _ _ JN1.out.1 JN1.out.2 (by rw [HHH.out]; exact HL.out) (by rw [HHH.out]; exact JS5.out) HJW.out (((HK.out.trans K4.out).drewN _).of_no.trans K5.out), trivial⟩)
          · have f11 : ¬ E = 0 := hE0
            clear hE0
            go_wp2_with (go_at_call 37; refine WR.out.mono ?_; rintro e w5 ⟨rfl, js5, k5⟩; have JS5 := Lib.hid js5; have K5 := Lib.hid k5; clear js5 k5)
            first
            | exact QF.out _ E dd JN1.out.1 f11 JN1.out.2 JS5.out.p (((HK.out.trans K4.out).drewN _).of_no.trans K5.out)
            | (go_ret2; exact ⟨QF.out _ E dd JN1.out.1 f11 JN1.out.2 JS5.out.p (((HK.out.trans K4.out).drewN _).of_no.trans K5.out), trivial⟩)
      · by_cases hs : h0.seq < h1.seq
        · have f8 : (h1.seq : Int) > h0.seq := by omega
          have HSQ := Lib.hid hs
          clear hs
          have hN : jnew d = 1 := by rw [NW.out]; simp; exact HSQ.out
          have hH : jhead d = h1 := by rw [HH.out, hN]; rfl
          have hM : jmend d = (!true || !h0.eqB h1) := by rw [MM.out, hN]; rfl
          have OP2 := Lib.hid (OP2.out (by simp)); have OP3 := Lib.hid (OP3.out (by simp)); have OP4 := Lib.hid (OP4.out (by simp))
          rw [hH] at OP2 OP3 OP4; rw [hN] at OP4
          have HHH := Lib.hid hH
          have HM := Lib.hid hM
          clear hN hH hM
          have ok : h1.Ok := O1.out
          have OX := Lib.hid ok
          obtain ⟨k1, k2, k3, k4, k5⟩ := ok
          have f3 : (h1.seq : Int) ≤ 9223372036854775807 := by omega
          rcases hl : jload d h1 with _ | l
          · have hJ0 : (wr.alloc (.cells (jC D h1 (.slice none 0 0) false) 86)).heap[wr.heap.size]? = some (.cells (jC D h1 (.slice none 0 0) false) 86 (0, 0)) := blk_new _ _
            have LD := load_ok (h := h1) (J := wr.heap.size) h4 hup k2 k3 k4 k5 (wr.alloc (.cells (jC D h1 (.slice none 0 0) false) 86)) (HKP.out.kept0 ((Kept.refl _ _).alloc _)) (fun e => by have := HKP.out.lt; unfold InD at e; omega) hJ0
            unfold jC at LD
            have LD1 := Lib.hid (LD.mono (R' := fun e w' => e = .returned (.int .i64 7) ∧ Kept (fun i => i = wr.heap.size) (wr.alloc (.cells #[.pointer (some ⟨D, 0, none⟩), .int .i64 h1.seq, .int .i64 h1.bank, .int .i64 h1.size, .int .i64 h1.count, .int .u32 h1.sum, .slice none 0 0, .bool false] 86)) w') (fun e w' h => by rcases h with ⟨q1, _, q2⟩ | ⟨l, _, q, _⟩; exact ⟨q1, q2⟩; rw [hl] at q; cases q))
            clear LD hJ0 k1 k2 k3 k4 k5
            have JN := Lib.hid (OP2.out hl)
            clear hl OP2 OP3 OP4
            go_wp2_with (go_at_call 36; refine LD1.out.mono ?_; rintro e w3 ⟨rfl, q3⟩; have K3 : Hid (Kept NoM w w3) := Lib.hid (HK.out.trans (((Kept.refl NoM wr).alloc _).trans' q3 (fun i hi e => absurd e (Nat.ne_of_lt hi)))); clear q3)
            first
            | exact QF.out _ 7 d JN.out.1 (by decide) JN.out.2 (HP.out.kept0 K3.out) K3.out.of_no
            | (go_ret2; exact ⟨QF.out _ 7 d JN.out.1 (by decide) JN.out.2 (HP.out.kept0 K3.out) K3.out.of_no, trivial⟩)
          · have hJ0 : (wr.alloc (.cells (jC D h1 (.slice none 0 0) false) 86)).heap[wr.heap.size]? = some (.cells (jC D h1 (.slice none 0 0) false) 86 (0, 0)) := blk_new _ _
            have LD := load_ok (h := h1) (J := wr.heap.size) h4 hup k2 k3 k4 k5 (wr.alloc (.cells (jC D h1 (.slice none 0 0) false) 86)) (HKP.out.kept0 ((Kept.refl _ _).alloc _)) (fun e => by have := HKP.out.lt; unfold InD at e; omega) hJ0
            unfold jC at LD
            have LD1 := Lib.hid (LD.mono (R' := fun e w' => e = .returned (.int .i64 0) ∧ JS w' wr.heap.size D G B d h1 l false ∧ Kept (fun i => i = wr.heap.size) (wr.alloc (.cells #[.pointer (some ⟨D, 0, none⟩), .int .i64 h1.seq, .int .i64 h1.bank, .int .i64 h1.size, .int .i64 h1.count, .int .u32 h1.sum, .slice none 0 0, .bool false] 86)) w') (fun e w' h => by rcases h with ⟨_, q, _⟩ | ⟨l9, q1, q2, q3, q4⟩; rw [hl] at q; cases q; rw [hl] at q2; cases q2; exact ⟨q1, q3, q4⟩))
            clear LD hJ0 k1 k2 k3 k4 k5
            have OP3 := Lib.hid (OP3.out l hl)
            have OP4 := Lib.hid (OP4.out l hl)
            have HL := Lib.hid hl
            clear hl OP2
            go_wp2_with (go_at_call 36; refine LD1.out.mono ?_; rintro e w3 ⟨rfl, js3, q3⟩; have JS3 := Lib.hid js3; have K4 : Hid (Kept NoM wr w3) := Lib.hid (((Kept.refl NoM wr).alloc _).trans' q3 (fun i hi e => absurd e (Nat.ne_of_lt hi))); clear q3 js3)
            obtain ⟨⟨v0, v1, v2, v3, v4⟩, ⟨v5, v6, v7, v8, v9⟩, u0, u1⟩ := CA.out NoM w3 K4.out (fun x => x) (fun x => x)
            clear y0 y1 y2 y3 y4 y5 y6 y7 y8 y9 z0 z1
            obtain ⟨aj, cj, c0, c1, c2, c3, c4, c5, c6, c7, hrj⟩ := JS3.out.cells
            clear hrj
            have HJW : Hid (w.heap.size ≤ wr.heap.size) := Lib.hid HK.out.size
            generalize wr.heap.size = J at *
            have hE : h0.eqB h1 = false := by cases q : h0.eqB h1; rfl; have := eqB_iff.1 q; have := HSQ.out; subst h0; omega
            have JN := Lib.hid (OP4.out (by rw [HM.out, hE]; simp))
            go_quiet (fail)
            have WR := jwrite_ok 0 (by omega) (by omega) OX.out (w3.drewN nq) (JS3.out.kept0 ((Kept.refl _ _).drewN _))
            have e10 : 1 - 1 = 0 := rfl
            obtain ⟨E, hE9⟩ : ∃ E, (jwrite d h1 0).2 = E := ⟨_, rfl⟩
            obtain ⟨dd, hd9⟩ : ∃ dd, (jwrite d h1 0).1 = dd := ⟨_, rfl⟩
            rw [hE9, hd9] at WR
            have WR := Lib.hid WR
            have JN1 : Hid (jopenE d = E ∧ jopenD d = dd) := Lib.hid ⟨by rw [JN.out.1]; exact hE9, by rw [JN.out.2]; exact hd9⟩
            clear hE9 hd9 e10 JN OP3 OP4
            by_cases hE0 : E = 0
            · subst hE0
              go_wp2_with (go_at_call 37; refine WR.out.mono ?_; rintro e w5 ⟨rfl, js5, k5⟩; have JS5 := Lib.hid js5; have K5 := Lib.hid k5; clear js5 k5)
              first
              | exact QS.out _ _ _ _ JN1.out.1 JN1.out.2 (by rw [HHH.out]; exact HL.out) (by rw [HHH.out]; exact JS5.out) HJW.out (((HK.out.trans K4.out).drewN _).of_no.trans K5.out)
              | (go_ret2; exact ⟨QS.out _ _ _ _ JN1.out.1 JN1.out.2 (by rw [HHH.out]; exact HL.out) (by rw [HHH.out]; exact JS5.out) HJW.out (((HK.out.trans K4.out).drewN _).of_no.trans K5.out), trivial⟩)
            · have f11 : ¬ E = 0 := hE0
              clear hE0
              go_wp2_with (go_at_call 37; refine WR.out.mono ?_; rintro e w5 ⟨rfl, js5, k5⟩; have JS5 := Lib.hid js5; have K5 := Lib.hid k5; clear js5 k5)
              first
              | exact QF.out _ E dd JN1.out.1 f11 JN1.out.2 JS5.out.p (((HK.out.trans K4.out).drewN _).of_no.trans K5.out)
              | (go_ret2; exact ⟨QF.out _ E dd JN1.out.1 f11 JN1.out.2 JS5.out.p (((HK.out.trans K4.out).drewN _).of_no.trans K5.out), trivial⟩)
        · have f8 : ¬ (h1.seq : Int) > h0.seq := by omega
          have HSQ : Hid (¬ h0.seq < h1.seq) := Lib.hid hs
          clear hs
          have hN : jnew d = 0 := by rw [NW.out]; simp; have := HSQ.out; omega
          have hH : jhead d = h0 := by rw [HH.out, hN]; rfl
          have hM : jmend d = (!true || !h1.eqB h0) := by rw [MM.out, hN]; rfl
          have OP2 := Lib.hid (OP2.out (by simp)); have OP3 := Lib.hid (OP3.out (by simp)); have OP4 := Lib.hid (OP4.out (by simp))
          rw [hH] at OP2 OP3 OP4; rw [hN] at OP4
          have HHH := Lib.hid hH
          have HM := Lib.hid hM
          clear hN hH hM
          have ok : h0.Ok := O0.out
          have OX := Lib.hid ok
          obtain ⟨k1, k2, k3, k4, k5⟩ := ok
          have f3 : (h0.seq : Int) ≤ 9223372036854775807 := by omega
          rcases hl : jload d h0 with _ | l
          · have hJ0 : (wr.alloc (.cells (jC D h0 (.slice none 0 0) false) 86)).heap[wr.heap.size]? = some (.cells (jC D h0 (.slice none 0 0) false) 86 (0, 0)) := blk_new _ _
            have LD := load_ok (h := h0) (J := wr.heap.size) h4 hup k2 k3 k4 k5 (wr.alloc (.cells (jC D h0 (.slice none 0 0) false) 86)) (HKP.out.kept0 ((Kept.refl _ _).alloc _)) (fun e => by have := HKP.out.lt; unfold InD at e; omega) hJ0
            unfold jC at LD
            have LD1 := Lib.hid (LD.mono (R' := fun e w' => e = .returned (.int .i64 7) ∧ Kept (fun i => i = wr.heap.size) (wr.alloc (.cells #[.pointer (some ⟨D, 0, none⟩), .int .i64 h0.seq, .int .i64 h0.bank, .int .i64 h0.size, .int .i64 h0.count, .int .u32 h0.sum, .slice none 0 0, .bool false] 86)) w') (fun e w' h => by rcases h with ⟨q1, _, q2⟩ | ⟨l, _, q, _⟩; exact ⟨q1, q2⟩; rw [hl] at q; cases q))
            clear LD hJ0 k1 k2 k3 k4 k5
            have JN := Lib.hid (OP2.out hl)
            clear hl OP2 OP3 OP4
            go_wp2_with (go_at_call 36; refine LD1.out.mono ?_; rintro e w3 ⟨rfl, q3⟩; have K3 : Hid (Kept NoM w w3) := Lib.hid (HK.out.trans (((Kept.refl NoM wr).alloc _).trans' q3 (fun i hi e => absurd e (Nat.ne_of_lt hi)))); clear q3)
            first
            | exact QF.out _ 7 d JN.out.1 (by decide) JN.out.2 (HP.out.kept0 K3.out) K3.out.of_no
            | (go_ret2; exact ⟨QF.out _ 7 d JN.out.1 (by decide) JN.out.2 (HP.out.kept0 K3.out) K3.out.of_no, trivial⟩)
          · have hJ0 : (wr.alloc (.cells (jC D h0 (.slice none 0 0) false) 86)).heap[wr.heap.size]? = some (.cells (jC D h0 (.slice none 0 0) false) 86 (0, 0)) := blk_new _ _
            have LD := load_ok (h := h0) (J := wr.heap.size) h4 hup k2 k3 k4 k5 (wr.alloc (.cells (jC D h0 (.slice none 0 0) false) 86)) (HKP.out.kept0 ((Kept.refl _ _).alloc _)) (fun e => by have := HKP.out.lt; unfold InD at e; omega) hJ0
            unfold jC at LD
            have LD1 := Lib.hid (LD.mono (R' := fun e w' => e = .returned (.int .i64 0) ∧ JS w' wr.heap.size D G B d h0 l false ∧ Kept (fun i => i = wr.heap.size) (wr.alloc (.cells #[.pointer (some ⟨D, 0, none⟩), .int .i64 h0.seq, .int .i64 h0.bank, .int .i64 h0.size, .int .i64 h0.count, .int .u32 h0.sum, .slice none 0 0, .bool false] 86)) w') (fun e w' h => by rcases h with ⟨_, q, _⟩ | ⟨l9, q1, q2, q3, q4⟩; rw [hl] at q; cases q; rw [hl] at q2; cases q2; exact ⟨q1, q3, q4⟩))
            clear LD hJ0 k1 k2 k3 k4 k5
            have OP3 := Lib.hid (OP3.out l hl)
            have OP4 := Lib.hid (OP4.out l hl)
            have HL := Lib.hid hl
            clear hl OP2
            go_wp2_with (go_at_call 36; refine LD1.out.mono ?_; rintro e w3 ⟨rfl, js3, q3⟩; have JS3 := Lib.hid js3; have K4 : Hid (Kept NoM wr w3) := Lib.hid (((Kept.refl NoM wr).alloc _).trans' q3 (fun i hi e => absurd e (Nat.ne_of_lt hi))); clear q3 js3)
            obtain ⟨⟨v0, v1, v2, v3, v4⟩, ⟨v5, v6, v7, v8, v9⟩, u0, u1⟩ := CA.out NoM w3 K4.out (fun x => x) (fun x => x)
            clear y0 y1 y2 y3 y4 y5 y6 y7 y8 y9 z0 z1
            obtain ⟨aj, cj, c0, c1, c2, c3, c4, c5, c6, c7, hrj⟩ := JS3.out.cells
            clear hrj
            have HJW : Hid (w.heap.size ≤ wr.heap.size) := Lib.hid HK.out.size
            generalize wr.heap.size = J at *
            cases hE : h1.eqB h0
            · rcases eqB_no hE with n1 | ⟨n1, n2⟩ | ⟨n1, n2, n3⟩ | ⟨n1, n2, n3, n4⟩ | ⟨n1, n2, n3, n4, n5⟩
              · skip
                have JN := Lib.hid (OP4.out (by rw [HM.out, hE]; simp))
                go_quiet (fail)
                have WR := jwrite_ok 1 (by omega) (by omega) OX.out (w3.drewN nq) (JS3.out.kept0 ((Kept.refl _ _).drewN _))
                have e10 : 1 - 0 = 1 := rfl
                obtain ⟨E, hE9⟩ : ∃ E, (jwrite d h0 1).2 = E := ⟨_, rfl⟩
                obtain ⟨dd, hd9⟩ : ∃ dd, (jwrite d h0 1).1 = dd := ⟨_, rfl⟩
                rw [hE9, hd9] at WR
                have WR := Lib.hid WR
                have JN1 : Hid (jopenE d = E ∧ jopenD d = dd) := Lib.hid ⟨by rw [JN.out.1]; exact hE9, by rw [JN.out.2]; exact hd9⟩
                clear hE9 hd9 e10 JN OP3 OP4
                by_cases hE0 : E = 0
                · subst hE0
                  go_wp2_with (go_at_call 37; refine WR.out.mono ?_; rintro e w5 ⟨rfl, js5, k5⟩; have JS5 := Lib.hid js5; have K5 := Lib.hid k5; clear js5 k5)
                  first
                  | exact QS.out _ _ _ _ JN1.out.1 JN1.out.2 (by rw [HHH.out]; exact HL.out) (by rw [HHH.out]; exact JS5.out) HJW.out (((HK.out.trans K4.out).drewN _).of_no.trans K5.out)
                  | (go_ret2; exact ⟨QS.out _ _ _ _ JN1.out.1 JN1.out.2 (by rw [HHH.out]; exact HL.out) (by rw [HHH.out]; exact JS5.out) HJW.out (((HK.out.trans K4.out).drewN _).of_no.trans K5.out), trivial⟩)
                · have f11 : ¬ E = 0 := hE0
                  clear hE0
                  go_wp2_with (go_at_call 37; refine WR.out.mono ?_; rintro e w5 ⟨rfl, js5, k5⟩; have JS5 := Lib.hid js5; have K5 := Lib.hid k5; clear js5 k5)
                  first
                  | exact QF.out _ E dd JN1.out.1 f11 JN1.out.2 JS5.out.p (((HK.out.trans K4.out).drewN _).of_no.trans K5.out)
                  | (go_ret2; exact ⟨QF.out _ E dd JN1.out.1 f11 JN1.out.2 JS5.out.p (((HK.out.trans K4.out).drewN _).of_no.trans K5.out), trivial⟩)
              · skip
                have JN := Lib.hid (OP4.out (by rw [HM.out, hE]; simp))
                go_quiet (fail)
                have WR := jwrite_ok 1 (by omega) (by omega) OX.out (w3.drewN nq) (JS3.out.kept0 ((Kept.refl _ _).drewN _))
                have e10 : 1 - 0 = 1 := rfl
                obtain ⟨E, hE9⟩ : ∃ E, (jwrite d h0 1).2 = E := ⟨_, rfl⟩
                obtain ⟨dd, hd9⟩ : ∃ dd, (jwrite d h0 1).1 = dd := ⟨_, rfl⟩
                rw [hE9, hd9] at WR
                have WR := Lib.hid WR
                have JN1 : Hid (jopenE d = E ∧ jopenD d = dd) := Lib.hid ⟨by rw [JN.out.1]; exact hE9, by rw [JN.out.2]; exact hd9⟩
                clear hE9 hd9 e10 JN OP3 OP4
                by_cases hE0 : E = 0
                · subst hE0
                  go_wp2_with (go_at_call 37; refine WR.out.mono ?_; rintro e w5 ⟨rfl, js5, k5⟩; have JS5 := Lib.hid js5; have K5 := Lib.hid k5; clear js5 k5)
                  first
                  | exact QS.out _ _ _ _ JN1.out.1 JN1.out.2 (by rw [HHH.out]; exact HL.out) (by rw [HHH.out]; exact JS5.out) HJW.out (((HK.out.trans K4.out).drewN _).of_no.trans K5.out)
                  | (go_ret2; exact ⟨QS.out _ _ _ _ JN1.out.1 JN1.out.2 (by rw [HHH.out]; exact HL.out) (by rw [HHH.out]; exact JS5.out) HJW.out (((HK.out.trans K4.out).drewN _).of_no.trans K5.out), trivial⟩)
                · have f11 : ¬ E = 0 := hE0
                  clear hE0
                  go_wp2_with (go_at_call 37; refine WR.out.mono ?_; rintro e w5 ⟨rfl, js5, k5⟩; have JS5 := Lib.hid js5; have K5 := Lib.hid k5; clear js5 k5)
                  first
                  | exact QF.out _ E dd JN1.out.1 f11 JN1.out.2 JS5.out.p (((HK.out.trans K4.out).drewN _).of_no.trans K5.out)
                  | (go_ret2; exact ⟨QF.out _ E dd JN1.out.1 f11 JN1.out.2 JS5.out.p (((HK.out.trans K4.out).drewN _).of_no.trans K5.out), trivial⟩)
              · skip
                have JN := Lib.hid (OP4.out (by rw [HM.out, hE]; simp))
                go_quiet (fail)
                have WR := jwrite_ok 1 (by omega) (by omega) OX.out (w3.drewN nq) (JS3.out.kept0 ((Kept.refl _ _).drewN _))
                have e10 : 1 - 0 = 1 := rfl
                obtain ⟨E, hE9⟩ : ∃ E, (jwrite d h0 1).2 = E := ⟨_, rfl⟩
                obtain ⟨dd, hd9⟩ : ∃ dd, (jwrite d h0 1).1 = dd := ⟨_, rfl⟩
                rw [hE9, hd9] at WR
                have WR := Lib.hid WR
                have JN1 : Hid (jopenE d = E ∧ jopenD d = dd) := Lib.hid ⟨by rw [JN.out.1]; exact hE9, by rw [JN.out.2]; exact hd9⟩
                clear hE9 hd9 e10 JN OP3 OP4
                by_cases hE0 : E = 0
                · subst hE0
                  go_wp2_with (go_at_call 37; refine WR.out.mono ?_; rintro e w5 ⟨rfl, js5, k5⟩; have JS5 := Lib.hid js5; have K5 := Lib.hid k5; clear js5 k5)
                  first
                  | exact QS.out _ _ _ _ JN1.out.1 JN1.out.2 (by rw [HHH.out]; exact HL.out) (by rw [HHH.out]; exact JS5.out) HJW.out (((HK.out.trans K4.out).drewN _).of_no.trans K5.out)
                  | (go_ret2; exact ⟨QS.out _ _ _ _ JN1.out.1 JN1.out.2 (by rw [HHH.out]; exact HL.out) (by rw [HHH.out]; exact JS5.out) HJW.out (((HK.out.trans K4.out).drewN _).of_no.trans K5.out), trivial⟩)
                · have f11 : ¬ E = 0 := hE0
                  clear hE0
                  go_wp2_with (go_at_call 37; refine WR.out.mono ?_; rintro e w5 ⟨rfl, js5, k5⟩; have JS5 := Lib.hid js5; have K5 := Lib.hid k5; clear js5 k5)
                  first
                  | exact QF.out _ E dd JN1.out.1 f11 JN1.out.2 JS5.out.p (((HK.out.trans K4.out).drewN _).of_no.trans K5.out)
                  | (go_ret2; exact ⟨QF.out _ E dd JN1.out.1 f11 JN1.out.2 JS5.out.p (((HK.out.trans K4.out).drewN _).of_no.trans K5.out), trivial⟩)
              · skip
                have JN := Lib.hid (OP4.out (by rw [HM.out, hE]; simp))
                go_quiet (fail)
                have WR := jwrite_ok 1 (by omega) (by omega) OX.out (w3.drewN nq) (JS3.out.kept0 ((Kept.refl _ _).drewN _))
                have e10 : 1 - 0 = 1 := rfl
                obtain ⟨E, hE9⟩ : ∃ E, (jwrite d h0 1).2 = E := ⟨_, rfl⟩
                obtain ⟨dd, hd9⟩ : ∃ dd, (jwrite d h0 1).1 = dd := ⟨_, rfl⟩
                rw [hE9, hd9] at WR
                have WR := Lib.hid WR
                have JN1 : Hid (jopenE d = E ∧ jopenD d = dd) := Lib.hid ⟨by rw [JN.out.1]; exact hE9, by rw [JN.out.2]; exact hd9⟩
                clear hE9 hd9 e10 JN OP3 OP4
                by_cases hE0 : E = 0
                · subst hE0
                  go_wp2_with (go_at_call 37; refine WR.out.mono ?_; rintro e w5 ⟨rfl, js5, k5⟩; have JS5 := Lib.hid js5; have K5 := Lib.hid k5; clear js5 k5)
                  first
                  | exact QS.out _ _ _ _ JN1.out.1 JN1.out.2 (by rw [HHH.out]; exact HL.out) (by rw [HHH.out]; exact JS5.out) HJW.out (((HK.out.trans K4.out).drewN _).of_no.trans K5.out)
                  | (go_ret2; exact ⟨QS.out _ _ _ _ JN1.out.1 JN1.out.2 (by rw [HHH.out]; exact HL.out) (by rw [HHH.out]; exact JS5.out) HJW.out (((HK.out.trans K4.out).drewN _).of_no.trans K5.out), trivial⟩)
                · have f11 : ¬ E = 0 := hE0
                  clear hE0
                  go_wp2_with (go_at_call 37; refine WR.out.mono ?_; rintro e w5 ⟨rfl, js5, k5⟩; have JS5 := Lib.hid js5; have K5 := Lib.hid k5; clear js5 k5)
                  first
                  | exact QF.out _ E dd JN1.out.1 f11 JN1.out.2 JS5.out.p (((HK.out.trans K4.out).drewN _).of_no.trans K5.out)
                  | (go_ret2; exact ⟨QF.out _ E dd JN1.out.1 f11 JN1.out.2 JS5.out.p (((HK.out.trans K4.out).drewN _).of_no.trans K5.out), trivial⟩)
              · skip
                have JN := Lib.hid (OP4.out (by rw [HM.out, hE]; simp))
                go_quiet (fail)
                have WR := jwrite_ok 1 (by omega) (by omega) OX.out (w3.drewN nq) (JS3.out.kept0 ((Kept.refl _ _).drewN _))
                have e10 : 1 - 0 = 1 := rfl
                obtain ⟨E, hE9⟩ : ∃ E, (jwrite d h0 1).2 = E := ⟨_, rfl⟩
                obtain ⟨dd, hd9⟩ : ∃ dd, (jwrite d h0 1).1 = dd := ⟨_, rfl⟩
                rw [hE9, hd9] at WR
                have WR := Lib.hid WR
                have JN1 : Hid (jopenE d = E ∧ jopenD d = dd) := Lib.hid ⟨by rw [JN.out.1]; exact hE9, by rw [JN.out.2]; exact hd9⟩
                clear hE9 hd9 e10 JN OP3 OP4
                by_cases hE0 : E = 0
                · subst hE0
                  go_wp2_with (go_at_call 37; refine WR.out.mono ?_; rintro e w5 ⟨rfl, js5, k5⟩; have JS5 := Lib.hid js5; have K5 := Lib.hid k5; clear js5 k5)
                  first
                  | exact QS.out _ _ _ _ JN1.out.1 JN1.out.2 (by rw [HHH.out]; exact HL.out) (by rw [HHH.out]; exact JS5.out) HJW.out (((HK.out.trans K4.out).drewN _).of_no.trans K5.out)
                  | (go_ret2; exact ⟨QS.out _ _ _ _ JN1.out.1 JN1.out.2 (by rw [HHH.out]; exact HL.out) (by rw [HHH.out]; exact JS5.out) HJW.out (((HK.out.trans K4.out).drewN _).of_no.trans K5.out), trivial⟩)
                · have f11 : ¬ E = 0 := hE0
                  clear hE0
                  go_wp2_with (go_at_call 37; refine WR.out.mono ?_; rintro e w5 ⟨rfl, js5, k5⟩; have JS5 := Lib.hid js5; have K5 := Lib.hid k5; clear js5 k5)
                  first
                  | exact QF.out _ E dd JN1.out.1 f11 JN1.out.2 JS5.out.p (((HK.out.trans K4.out).drewN _).of_no.trans K5.out)
                  | (go_ret2; exact ⟨QF.out _ E dd JN1.out.1 f11 JN1.out.2 JS5.out.p (((HK.out.trans K4.out).drewN _).of_no.trans K5.out), trivial⟩)
            · have JN := Lib.hid (OP3.out (by rw [HM.out, hE]; simp))
              have HE := Lib.hid (eqB_iff.1 hE)
              clear hE OP3 OP4
              obtain rfl := HE.out
              go_quiet (fail)
              go_wp2_with fail
              first
              | exact QS.out _ _ _ _ JN.out.1 JN.out.2 (by rw [HHH.out]; exact HL.out) (by rw [HHH.out]; exact (JS3.out.kept0 ((Kept.refl _ _).drewN _))) HJW.out (((HK.out.trans K4.out).drewN _).of_no)
              | (go_ret2; exact ⟨QS.out _ _ _ _ JN.out.1 JN.out.2 (by rw [HHH.out]; exact HL.out) (by rw [HHH.out]; exact (JS3.out.kept0 ((Kept.refl _ _).drewN _))) HJW.out (((HK.out.trans K4.out).drewN _).of_no), trivial⟩)
end
end Go.Proofs.Ytjcmnobfdidnkaa
