/- Walks: the records of the stream are loaded. -/
import Derived.Test.YtjcmnobfdidnkaaKJ14
set_option linter.unusedVariables false
set_option linter.unusedSimpArgs false
set_option linter.unusedSectionVars false
namespace Go.Proofs.Ytjcmnobfdidnkaa
open Go.RowKit
set_option maxHeartbeats 4000000
set_option maxRecDepth 4000
theorem BU.kept {w w' : World} {b : Nat} {l : Pg} (h : BU w b b l) (k : Kept NoM w w') : BU w' b b l := by
  have go : ∀ p, Lib.BuilderAt 107 5 b b p (Lib.byteCells l) w → Lib.BuilderAt 107 5 b b p (Lib.byteCells l) w' := by
    rintro p ⟨h1, v, h2, h3, h4⟩
    exact ⟨h1, v, k.blk h2 (fun x => x), h3.kept (row := some b) ⟨k.os, k.tape, k.output, k.size, fun i hi _ => k.block i hi (fun x => x)⟩ (Or.inr h4), h4⟩
  rcases h with h | h
  · exact .inl (go _ h)
  · exact .inr (go _ h)
theorem bstr_k (B b : Nat) (l : Pg) (w : World) (h : BU w B b l) (hB : B ≤ w.heap.size) :
    Calls Try.prog 55 #[.pointer (some ⟨b, 0, none⟩)] w fun e w' => e = .returned (.string ⟨l.toArray⟩) ∧ Below B w w' ∧ Lib.OthersKept 5 (some b) w w' :=
  (Go.Proofs.Try.Builder_String_any_k B b l w (Lib.IsBuilderF.of h) hB).mono fun e w' ⟨h1, _, h2, h3⟩ => ⟨h1, h2, h3⟩
theorem BU.blk {w : World} {B b : Nat} {l : Pg} (h : BU w B b l) : ∃ p v, w.heap[b]? = some (.cells #[p, v] 107 (0, 0)) := by
  rcases h with ⟨_, v, h, _⟩ | ⟨_, v, h, _⟩
  · exact ⟨_, _, h⟩
  · exact ⟨_, _, h⟩
theorem strclone_ok (s : Pg) (hs : s.length ≤ 100000000) (w : World) : Calls Try.prog 57 #[.string ⟨s.toArray⟩] w fun e w' => e = .returned (.string ⟨s.toArray⟩) ∧ Kept NoM w w' := by
  have hz : (⟨s.toArray⟩ : ByteArray).size = s.length := by simp [ByteArray.size]
  have SL := Lib.hid (Go.Proofs.Try.stringslite_Clone ⟨s.toArray⟩ w (by rw [hz]; omega))
  go_enter Try.func57, Try.ntmps57
  go_wp2_with (go_at_call 69; refine SL.out.mono ?_; rintro e w1 ⟨rfl, k1⟩)
  go_ret
  exact ⟨rfl, Kept.of_below k1⟩
theorem jcut1 {r : Pg} (h : r.length < 2) : jcut r = none := by unfold jcut; rw [if_pos h]
theorem jcut2 {r : Pg} (h : ¬ r.length < 2) (h2 : r.length - 2 < getN (r.take 2)) : jcut r = none := by unfold jcut; rw [if_neg h, if_pos h2]
theorem jcut3 {r : Pg} (h : ¬ r.length < 2) (h2 : ¬ r.length - 2 < getN (r.take 2)) : jcut r = some ((r.drop 2).take (getN (r.take 2)), r.drop (2 + getN (r.take 2))) := by unfold jcut; rw [if_neg h, if_neg h2]
theorem jload1 {d : Dk} {h : Hd} (hb : 1 < h.bank) : jload d h = none := by unfold jload; rw [if_pos (.inl hb)]
theorem jload2 {d : Dk} {h : Hd} (hb : d.jcap < h.size) : jload d h = none := by unfold jload; rw [if_pos (.inr hb)]
theorem jload3 {d : Dk} {h : Hd} (hb : ¬ 1 < h.bank) (hs : ¬ d.jcap < h.size) (hc : crc 0 (jbytes d h) ≠ h.sum) : jload d h = none := by unfold jload; rw [if_neg (by omega), if_pos hc]
theorem jload4 {d : Dk} {h : Hd} (hb : ¬ 1 < h.bank) (hs : ¬ d.jcap < h.size) (hc : crc 0 (jbytes d h) = h.sum) (ht : jtake h.count (jbytes d h) = none) : jload d h = none := by unfold jload; rw [if_neg (by omega), if_neg (by simp [hc]), ht]
theorem jload5 {d : Dk} {h : Hd} (hb : ¬ 1 < h.bank) (hs : ¬ d.jcap < h.size) (hc : crc 0 (jbytes d h) = h.sum) {l : List Pg} {r : Pg} (ht : jtake h.count (jbytes d h) = some (l, r)) (hr : r ≠ []) : jload d h = none := by
  unfold jload; rw [if_neg (by omega), if_neg (by simp [hc]), ht]
  cases r with
  | nil => exact absurd rfl hr
  | cons c r => rfl
theorem jload6 {d : Dk} {h : Hd} (hb : ¬ 1 < h.bank) (hs : ¬ d.jcap < h.size) (hc : crc 0 (jbytes d h) = h.sum) {l : List Pg} (ht : jtake h.count (jbytes d h) = some (l, [])) : jload d h = some l := by unfold jload; rw [if_neg (by omega), if_neg (by simp [hc]), ht]
theorem jtake_none {s : Pg} {k n : Nat} (h : jtake k s = none) (hk : k ≤ n) : jtake n s = none := by
  induction n with
  | zero => rw [Nat.le_zero.1 hk] at h; exact h
  | succ n ih =>
    by_cases e : k = n + 1
    · rw [← e]; exact h
    · show (match jtake n s with | none => none | some (l, r) => match jcut r with | none => none | some (x, t) => some (l ++ [x], t)) = none
      rw [ih (by omega)]
section
variable {J D G B : Nat} {d : Dk} {h : Hd} {recs : List Pg} {cl : Bool}
theorem load_ok (hd : 4 ≤ d.n) (hup : d.off = false) (hbk : h.bank < 256) (hsz : h.size < 4294967296) (hct : h.count < 4294967296) (hsm : h.sum < 4294967296) (w : World) (p : PD w D G B d) (ne : ¬ InD D G B J) (hJ : w.heap[J]? = some (.cells (jC D h (.slice none 0 0) false) 86 (0, 0))) :
    Calls Try.prog 36 #[.pointer (some ⟨J, 0, none⟩)] w fun e w' => (e = .returned (.int .i64 7) ∧ jload d h = none ∧ Kept (fun i => i = J) w w') ∨ (∃ l, e = .returned (.int .i64 0) ∧ jload d h = some l ∧ JS w' J D G B d h l false ∧ Kept (fun i => i = J) w w') := by
  suffices hQ : ∀ Q : Ending → World → Prop, (∀ w', jload d h = none → Kept (fun i => i = J) w w' → Q (.returned (.int .i64 7)) w') → (∀ w' l, jload d h = some l → JS w' J D G B d h l false → Kept (fun i => i = J) w w' → Q (.returned (.int .i64 0)) w') →
      Calls Try.prog 36 #[.pointer (some ⟨J, 0, none⟩)] w fun e w' => Q e w' ∧ True by
    exact (hQ _ (fun w' hf q1 => .inl ⟨rfl, hf, q1⟩) (fun w' l hf q1 q2 => .inr ⟨l, rfl, hf, q1, q2⟩)).mono (fun _ _ h => h.1)
  intro Q qn qy
  have QN := Lib.hid qn
  have QY := Lib.hid qy
  clear qn qy
  have hjc : d.jcap ≤ 1000000 := by have := p.n_hi; unfold Dk.jcap Dk.jp; omega
  have js : JS w J D G B d h [] false := ⟨p, ne, none, 0, hJ, (OwnS.nil w 9 1 EStr).rd (fun g hg => by cases hg)⟩
  have HS := Lib.hid js
  have HJ := Lib.hid hJ
  have HNE := Lib.hid ne
  have HIL : Hid (∀ i, InJ J D G B i → i < w.heap.size) := Lib.hid js.lt
  have HLT : Hid (J < w.heap.size) := Lib.hid (lt_of_block hJ)
  have SC : Hid (∀ w', Kept NoM w w' → w'.cell? ⟨J, 0, none⟩ = some (.pointer (some ⟨D, 0, none⟩)) ∧ w'.cell? ⟨J, 1, none⟩ = some (.int .i64 h.seq) ∧ w'.cell? ⟨J, 2, none⟩ = some (.int .i64 h.bank) ∧ w'.cell? ⟨J, 3, none⟩ = some (.int .i64 h.size) ∧ w'.cell? ⟨J, 4, none⟩ = some (.int .i64 h.count) ∧ w'.cell? ⟨J, 5, none⟩ = some (.int .u32 h.sum)) :=
    Lib.hid (fun w' k => by
      obtain ⟨a0, cap0, c0, c1, c2, c3, c4, c5, c6, c7, hr⟩ := js.cells
      exact ⟨k.cell c0 (fun x => x), k.cell c1 (fun x => x), k.cell c2 (fun x => x), k.cell c3 (fun x => x), k.cell c4 (fun x => x), k.cell c5 (fun x => x)⟩)
  have CP : Hid (∀ wx, Kept NoM w wx → Calls Try.prog 42 #[.pointer (some ⟨J, 0, none⟩)] wx fun e w' => e = .returned (.int .i64 d.jcap) ∧ w' = wx) := Lib.hid (fun wx k => (cap_ok wx (js.kept0 k) (by omega)).mono fun e w' ⟨h1, h2⟩ => ⟨h1, h2.symm⟩)
  obtain ⟨c0, c1, c2, c3, c4, c5⟩ := SC.out w (Kept.refl _ _)
  clear js hJ p
  go_enter Try.func36, Try.ntmps36
  go_wp2_with fail
  obtain ⟨W1, hW1⟩ : ∃ W1, w.alloc (.cells #[.int .i64 h.seq, .int .i64 h.bank, .int .i64 h.size, .int .i64 h.count, .int .u32 h.sum] 78) = W1 := ⟨_, rfl⟩
  obtain ⟨g, hg⟩ : ∃ g, w.heap.size = g := ⟨_, rfl⟩
  have hGb : W1.heap[g]? = some (.cells #[.int .i64 h.seq, .int .i64 h.bank, .int .i64 h.size, .int .i64 h.count, .int .u32 h.sum] 78 (0, 0)) := by rw [← hW1, ← hg]; exact blk_new _ _
  have HG := Lib.hid hGb
  have hgl := lt_of_block hGb
  have HW : Hid (Kept NoM w W1) := Lib.hid (by rw [← hW1]; exact (Kept.refl _ _).alloc _)
  have HGL := Lib.hid hg
  rw [hW1, hg]
  clear hW1 hg c0 c1 c2 c3 c4 c5
  have g0 := cell_blk hGb 0 _ rfl
  have g1 := cell_blk hGb 1 _ rfl
  have g2 := cell_blk hGb 2 _ rfl
  have g3 := cell_blk hGb 3 _ rfl
  have g4 := cell_blk hGb 4 _ rfl
  clear hGb
  by_cases hb1 : 1 < h.bank
  · have f1 : (h.bank : Int) > 1 := by omega
    go_quiet (first | (go_at_call 42; refine Calls.quiet_of_same (CP.out _ (HW.out.drewN _))))
    go_wp2_with fail
    go_ret
    exact ⟨QN.out _ (jload1 hb1) (HW.out.drewN _).of_no, trivial⟩
  · have f1 : ¬ (h.bank : Int) > 1 := by omega
    by_cases hs1 : d.jcap < h.size
    · have f2 : (h.size : Int) > (d.jcap : Int) := by omega
      have JL := Lib.hid (jload2 hs1)
      go_quiet (first | (go_at_call 42; refine Calls.quiet_of_same (CP.out _ (HW.out.drewN _))))
      go_wp2_with fail
      first
      | exact QN.out _ JL.out (HW.out.drewN _).of_no
      | (go_ret; exact ⟨QN.out _ JL.out (HW.out.drewN _).of_no, trivial⟩)
    · have f2 : ¬ (h.size : Int) > (d.jcap : Int) := by omega
      have hs2 : h.size ≤ 1000000 := by omega
      go_quiet (first | (go_at_call 42; refine Calls.quiet_of_same (CP.out _ (HW.out.drewN _))))
      have A2 : ∀ o, (W1.alloc o).cell? ⟨g, 2, none⟩ = some (.int .i64 h.size) := fun o => cell_blk (blk_old HG.out o) 2 _ rfl
      go_wp2_with fail
      have B0 : BU ((W1.alloc (.cells #[.pointer none, .slice none 0 0] 107)).drewN nq) W1.heap.size W1.heap.size [] := BU.fresh (blk_drewN (blk_new W1 _) _) (Nat.le_refl _)
      have K0 : Kept NoM W1 ((W1.alloc (.cells #[.pointer none, .slice none 0 0] 107)).drewN nq) := ((Kept.refl NoM W1).alloc _).drewN _
      obtain ⟨np, hnp⟩ : ∃ np : Nat, (h.size + 127) / 128 = np := ⟨_, rfl⟩
      rw [show ((h.size : Int) + 128 - 1) / 128 = (np : Int) by omega]
      obtain ⟨W2, hW2⟩ : ∃ W2, (W1.alloc (.cells #[.pointer none, .slice none 0 0] 107)).drewN nq = W2 := ⟨_, rfl⟩
      rw [hW2] at B0 K0 ⊢
      have hnpj : np ≤ d.jp := by unfold Dk.jcap at hs1; omega
      have HRG : Hid (∀ k, k < np → d.jfirst h.bank + k < d.n) := Lib.hid (fun k hk => by
        unfold Dk.jfirst
        unfold Dk.jp at hnpj ⊢
        rcases (show h.bank = 0 ∨ h.bank = 1 by omega) with hb | hb <;> rw [hb] <;> omega)
      have hfb : d.jfirst h.bank ≤ 10000 := by
        have := HS.out.p.n_hi
        unfold Dk.jfirst Dk.jp
        rcases (show h.bank = 0 ∨ h.bank = 1 by omega) with hb | hb <;> rw [hb] <;> omega
      have hnp2 : np ≤ 10000 := by omega
      have HNP := Lib.hid hnp
      have FS : Hid (∀ wx, Kept NoM w wx → Calls Try.prog 53 #[.pointer (some ⟨D, 0, none⟩), .int .i64 h.bank] wx fun e w' => e = .returned (.int .i64 (d.jfirst h.bank)) ∧ wx = w') := Lib.hid (fun wx k => first_ok wx (HS.out.p.kept0 k) (by omega) h.bank hbk)
      have RD : Hid (∀ k : Nat, k < np → ∀ wx, Kept NoM w wx → Calls Try.prog 34 #[.pointer (some ⟨D, 0, none⟩), .int .i64 ((d.jfirst h.bank + k : Nat) : Int)] wx fun e w' => e = .returned (.tuple #[.string ⟨(d.now (d.jfirst h.bank + k)).toArray⟩, .int .i64 0]) ∧ Kept NoM wx w') := Lib.hid (fun k hk wx kx => by
        have r := read_ok ((d.jfirst h.bank + k : Nat) : Int) wx (HS.out.p.kept0 kx)
        obtain ⟨r1, r2⟩ := Dk.readS_up hup (HRG.out k hk)
        rw [r1, r2] at r
        exact r)
      have HL : Hid (∀ k, k < np → (d.now (d.jfirst h.bank + k)).length = 128) := Lib.hid (fun k hk => HS.out.p.wf.now_len (HRG.out k hk))
      have HPS : Hid (∀ k, jpages d h.bank (k + 1) = jpages d h.bank k ++ d.now (d.jfirst h.bank + k)) := Lib.hid (fun k => by unfold jpages; rw [List.range_succ, List.flatMap_append]; simp)
      have HPL : Hid (∀ k, k ≤ np → (jpages d h.bank k).length = k * 128) := Lib.hid (fun k => by
        induction k with
        | zero => intro _; rfl
        | succ k ih => intro hk; rw [HPS.out, List.length_append, ih (by omega), HL.out k (by omega)]; omega)
      clear hW2 A2 hnp hnpj g0 g1 g2 g3 g4 f1 f2
      go_loopw [31] (fun i wr => ∃ k : Nat, k ≤ np ∧ i = .int .i64 k ∧ BU wr W1.heap.size W1.heap.size (jpages d h.bank k) ∧ Kept NoM W1 wr) (fun i _ => np - (intOf i).toNat)
      case atStart => exact ⟨0, Nat.zero_le _, rfl, B0, K0⟩
      case round =>
        obtain ⟨k, hk, rfl, hB, hK⟩ := hrel
        have HB := Lib.hid hB
        have HK := Lib.hid hK
        clear hB hK B0 K0
        by_cases hlt : k < np
        · have hki : (k : Int) < np := by omega
          have RK := Lib.hid (RD.out k hlt)
          have HT := Lib.hid (HPS.out k)
          have HTL := Lib.hid (HPL.out k hk)
          have HNL := Lib.hid (HL.out k hlt)
          generalize d.now (d.jfirst h.bank + k) = px at *
          generalize d.jfirst h.bank = fb at *
          go_wp2_with fail
          refine wp_region_par 19 [] [] [] [] [] (fun wx => Kept NoM wr wx)
                [fun v _ => v = .pointer (some ⟨J, 0, none⟩), fun v _ => v = .pointer (some ⟨J, 0, none⟩), fun v _ => v = .pointer (some ⟨J, 0, none⟩), fun v _ => v = .pointer (some ⟨D, 0, none⟩), fun v _ => v = .pointer (some ⟨J, 0, none⟩), fun v _ => v = .pointer (some ⟨J, 0, none⟩), fun v _ => v = .pointer (some ⟨J, 0, none⟩), fun v _ => v = .pointer (some ⟨D, 0, none⟩), fun v _ => v = .pointer (some ⟨g, 1, none⟩), fun v _ => v = .int .i64 h.bank, fun v _ => v = .int .i64 fb, fun v _ => v = .int .i64 k, fun v _ => v = .int .i64 ((fb + k : Nat) : Int), fun v _ => v = .tuple #[.string ⟨px.toArray⟩, .int .i64 0], fun v _ => v = .tuple #[.string ⟨px.toArray⟩, .int .i64 0], fun v _ => v = .string ⟨px.toArray⟩, fun v _ => v = .int .i64 0, fun v _ => v = .string ⟨px.toArray⟩, fun v _ => v = .int .i64 0] (by kernel_rfl) (by kernel_rfl) (by kernel_rfl) ((Kept.refl _ _).drew) (inits_nil) ?_ ?_
          · intro i hi9
            have hst := stab_all (posts := [fun v _ => v = .pointer (some ⟨J, 0, none⟩), fun v _ => v = .pointer (some ⟨J, 0, none⟩), fun v _ => v = .pointer (some ⟨J, 0, none⟩), fun v _ => v = .pointer (some ⟨D, 0, none⟩), fun v _ => v = .pointer (some ⟨J, 0, none⟩), fun v _ => v = .pointer (some ⟨J, 0, none⟩), fun v _ => v = .pointer (some ⟨J, 0, none⟩), fun v _ => v = .pointer (some ⟨D, 0, none⟩), fun v _ => v = .pointer (some ⟨g, 1, none⟩), fun v _ => v = .int .i64 h.bank, fun v _ => v = .int .i64 fb, fun v _ => v = .int .i64 k, fun v _ => v = .int .i64 ((fb + k : Nat) : Int), fun v _ => v = .tuple #[.string ⟨px.toArray⟩, .int .i64 0], fun v _ => v = .tuple #[.string ⟨px.toArray⟩, .int .i64 0], fun v _ => v = .string ⟨px.toArray⟩, fun v _ => v = .int .i64 0, fun v _ => v = .string ⟨px.toArray⟩, fun v _ => v = .int .i64 0])        (stab_cons (stab_const _) (stab_cons (stab_const _) (stab_cons (stab_const _) (stab_cons (stab_const _) (stab_cons (stab_const _) (stab_cons (stab_const _) (stab_cons (stab_const _) (stab_cons (stab_const _) (stab_cons (stab_const _) (stab_cons (stab_const _) (stab_cons (stab_const _) (stab_cons (stab_const _) (stab_cons (stab_const _) (stab_cons (stab_const _) (stab_cons (stab_const _) (stab_cons (stab_const _) (stab_cons (stab_const _) (stab_cons (stab_const _) (stab_cons (stab_const _) stab_nil)))))))))))))))))))
            have hist := init_stab (inits := []) (fun p h => by cases h)
            have HST := Lib.hid hst
            have HIST := Lib.hid hist
            clear hst hist
            rcases (show i = 0 ∨ i = 1 ∨ i = 2 ∨ i = 3 ∨ i = 4 ∨ i = 5 ∨ i = 6 ∨ i = 7 ∨ i = 8 ∨ i = 9 ∨ i = 10 ∨ i = 11 ∨ i = 12 ∨ i = 13 ∨ i = 14 ∨ i = 15 ∨ i = 16 ∨ i = 17 ∨ i = 18 by omega) with rfl | rfl | rfl | rfl | rfl | rfl | rfl | rfl | rfl | rfl | rfl | rfl | rfl | rfl | rfl | rfl | rfl | rfl | rfl
            · refine asks_intro ?_; intro o ho a wx hc hout hp hi R hR; cases ho
              have e0 : a.tmps[0]? = some (.pointer (some ⟨J, 0, none⟩)) := hout 0 rfl
              go_simp
              exact hR _ _ hc rfl (fun _ _ _ _ _ u h => h) (fun _ _ h => h)
            · refine asks_intro ?_; intro o ho a wx hc hout hp hi R hR; cases ho
              have e35 : a.tmps[35]?.getD undef = .pointer (some ⟨J, 0, none⟩) := hp 0 (by omega) rfl
              go_simp
              exact hR _ _ hc rfl (fun _ _ _ _ _ u h => h) (fun _ _ h => h)
            · refine asks_intro ?_; intro o ho a wx hc hout hp hi R hR; cases ho
              have e36 : a.tmps[36]?.getD undef = .pointer (some ⟨J, 0, none⟩) := hp 1 (by omega) rfl
              go_simp
              exact hR _ _ hc rfl (fun _ _ _ _ _ u h => h) (fun _ _ h => h)
            · refine asks_intro ?_; intro o ho a wx hc hout hp hi R hR; cases ho
              have e37 : a.tmps[37]?.getD undef = .pointer (some ⟨J, 0, none⟩) := hp 2 (by omega) rfl
              obtain ⟨c0, c1, c2, c3, c4, c5⟩ := SC.out wx (HW.out.trans (HK.out.trans hc))
              go_simp
              exact hR _ _ hc rfl (fun _ _ _ _ _ u h => h) (fun _ _ h => h)
            · refine asks_intro ?_; intro o ho a wx hc hout hp hi R hR; cases ho
              have e0 : a.tmps[0]? = some (.pointer (some ⟨J, 0, none⟩)) := hout 0 rfl
              go_simp
              exact hR _ _ hc rfl (fun _ _ _ _ _ u h => h) (fun _ _ h => h)
            · refine asks_intro ?_; intro o ho a wx hc hout hp hi R hR; cases ho
              have e39 : a.tmps[39]?.getD undef = .pointer (some ⟨J, 0, none⟩) := hp 4 (by omega) rfl
              go_simp
              exact hR _ _ hc rfl (fun _ _ _ _ _ u h => h) (fun _ _ h => h)
            · refine asks_intro ?_; intro o ho a wx hc hout hp hi R hR; cases ho
              have e40 : a.tmps[40]?.getD undef = .pointer (some ⟨J, 0, none⟩) := hp 5 (by omega) rfl
              go_simp
              exact hR _ _ hc rfl (fun _ _ _ _ _ u h => h) (fun _ _ h => h)
            · refine asks_intro ?_; intro o ho a wx hc hout hp hi R hR; cases ho
              have e41 : a.tmps[41]?.getD undef = .pointer (some ⟨J, 0, none⟩) := hp 6 (by omega) rfl
              obtain ⟨c0, c1, c2, c3, c4, c5⟩ := SC.out wx (HW.out.trans (HK.out.trans hc))
              go_simp
              exact hR _ _ hc rfl (fun _ _ _ _ _ u h => h) (fun _ _ h => h)
            · refine asks_intro ?_; intro o ho a wx hc hout hp hi R hR; cases ho
              have e3 : a.tmps[3]? = some (.pointer (some ⟨g, 0, none⟩)) := hout 3 rfl
              go_simp
              exact hR _ _ hc rfl (fun _ _ _ _ _ u h => h) (fun _ _ h => h)
            · refine asks_intro ?_; intro o ho a wx hc hout hp hi R hR; cases ho
              have e43 : a.tmps[43]?.getD undef = .pointer (some ⟨g, 1, none⟩) := hp 8 (by omega) rfl
              have gb := (HK.out.trans hc).blk HG.out (fun x => x)
              have g1 := cell_blk gb 1 _ rfl
              go_simp
              exact hR _ _ hc rfl (fun _ _ _ _ _ u h => h) (fun _ _ h => h)
            · refine asks_intro ?_; intro o ho a wx hc hout hp hi R hR; cases ho
              have e42 : a.tmps[42]?.getD undef = .pointer (some ⟨D, 0, none⟩) := hp 7 (by omega) rfl
              have e44 : a.tmps[44]?.getD undef = .int .i64 h.bank := hp 9 (by omega) rfl
              go_simp
              refine (FS.out wx (HW.out.trans (HK.out.trans hc))).mono ?_
              rintro e w2 ⟨rfl, rfl⟩
              exact ⟨_, rfl, hR _ _ hc rfl (fun j _ _ _ _ u h => h) (fun j _ h => h)⟩
            · refine asks_intro ?_; intro o ho a wx hc hout hp hi R hR; cases ho
              have e5 : a.tmps[5]? = some (.int .i64 k) := hout 5 rfl
              go_simp
              exact hR _ _ hc rfl (fun _ _ _ _ _ u h => h) (fun _ _ h => h)
            · refine asks_intro ?_; intro o ho a wx hc hout hp hi R hR; cases ho
              have e45 : a.tmps[45]?.getD undef = .int .i64 fb := hp 10 (by omega) rfl
              have e46 : a.tmps[46]?.getD undef = .int .i64 k := hp 11 (by omega) rfl
              have q : IntKind.i64.wrap ((fb : Int) + k) = ((fb + k : Nat) : Int) := by rw [IntWalk.i64_in _ (by omega)]; omega
              go_simp
              exact hR _ _ hc rfl (fun _ _ _ _ _ u h => h) (fun _ _ h => h)
            · refine asks_intro ?_; intro o ho a wx hc hout hp hi R hR; cases ho
              have e38 : a.tmps[38]?.getD undef = .pointer (some ⟨D, 0, none⟩) := hp 3 (by omega) rfl
              have e47 : a.tmps[47]?.getD undef = .int .i64 ((fb + k : Nat) : Int) := hp 12 (by omega) rfl
              go_simp
              refine (RK.out wx (HW.out.trans (HK.out.trans hc))).mono ?_
              rintro e w2 ⟨rfl, k1⟩
              exact ⟨_, rfl, hR _ _ (hc.trans k1) rfl (fun j _ _ _ _ u h => HST.out j u _ _ k1 h) (fun j _ h => HIST.out j _ _ k1 h)⟩
            · refine asks_intro ?_; intro o ho a wx hc hout hp hi R hR; cases ho
              have e48 : a.tmps[48]?.getD undef = .tuple #[.string ⟨px.toArray⟩, .int .i64 0] := hp 13 (by omega) rfl
              go_simp
              exact hR _ _ hc rfl (fun _ _ _ _ _ u h => h) (fun _ _ h => h)
            · refine asks_intro ?_; intro o ho a wx hc hout hp hi R hR; cases ho
              have e34 : a.tmps[34]?.getD undef = .tuple #[.string ⟨px.toArray⟩, .int .i64 0] := hp 14 (by omega) rfl
              go_simp
              exact hR _ _ hc rfl (fun _ _ _ _ _ u h => h) (fun _ _ h => h)
            · refine asks_intro ?_; intro o ho a wx hc hout hp hi R hR; cases ho
              have e34 : a.tmps[34]?.getD undef = .tuple #[.string ⟨px.toArray⟩, .int .i64 0] := hp 14 (by omega) rfl
              go_simp
              exact hR _ _ hc rfl (fun _ _ _ _ _ u h => h) (fun _ _ h => h)
            · refine asks_intro ?_; intro o ho a wx hc hout hp hi R hR; cases ho
              have e49 : a.tmps[49]?.getD undef = .string ⟨px.toArray⟩ := hp 15 (by omega) rfl
              go_simp
              exact hR _ _ hc rfl (fun _ _ _ _ _ u h => h) (fun _ _ h => h)
            · refine asks_intro ?_; intro o ho a wx hc hout hp hi R hR; cases ho
              have e50 : a.tmps[50]?.getD undef = .int .i64 0 := hp 16 (by omega) rfl
              go_simp
              exact hR _ _ hc rfl (fun _ _ _ _ _ u h => h) (fun _ _ h => h)
          · intro vs W8 hc hp
            have e35 : vs 0 = .pointer (some ⟨J, 0, none⟩) := hp 0 (by omega) rfl
            have e36 : vs 1 = .pointer (some ⟨J, 0, none⟩) := hp 1 (by omega) rfl
            have e37 : vs 2 = .pointer (some ⟨J, 0, none⟩) := hp 2 (by omega) rfl
            have e38 : vs 3 = .pointer (some ⟨D, 0, none⟩) := hp 3 (by omega) rfl
            have e39 : vs 4 = .pointer (some ⟨J, 0, none⟩) := hp 4 (by omega) rfl
            have e40 : vs 5 = .pointer (some ⟨J, 0, none⟩) := hp 5 (by omega) rfl
            have e41 : vs 6 = .pointer (some ⟨J, 0, none⟩) := hp 6 (by omega) rfl
            have e42 : vs 7 = .pointer (some ⟨D, 0, none⟩) := hp 7 (by omega) rfl
            have e43 : vs 8 = .pointer (some ⟨g, 1, none⟩) := hp 8 (by omega) rfl
            have e44 : vs 9 = .int .i64 h.bank := hp 9 (by omega) rfl
            have e45 : vs 10 = .int .i64 fb := hp 10 (by omega) rfl
            have e46 : vs 11 = .int .i64 k := hp 11 (by omega) rfl
            have e47 : vs 12 = .int .i64 ((fb + k : Nat) : Int) := hp 12 (by omega) rfl
            have e48 : vs 13 = .tuple #[.string ⟨px.toArray⟩, .int .i64 0] := hp 13 (by omega) rfl
            have e34 : vs 14 = .tuple #[.string ⟨px.toArray⟩, .int .i64 0] := hp 14 (by omega) rfl
            have e49 : vs 15 = .string ⟨px.toArray⟩ := hp 15 (by omega) rfl
            have e50 : vs 16 = .int .i64 0 := hp 16 (by omega) rfl
            have e6 : vs 17 = .string ⟨px.toArray⟩ := hp 17 (by omega) rfl
            have e7 : vs 18 = .int .i64 0 := hp 18 (by omega) rfl
            simp only [List.take_succ_cons, List.take_zero, List.drop_succ_cons, List.drop_zero, putAll, Act.put, List.setIfInBounds_toArray, List.set_cons_zero, List.set_cons_succ, Nat.reduceAdd, e35, e36, e37, e38, e39, e40, e41, e42, e43, e44, e45, e46, e47, e48, e34, e49, e50, e6, e7]
            change wpList _ _ _ _ _ _
            have HC8 := Lib.hid (HK.out.trans hc)
            have HB8 := Lib.hid (HB.out.kept hc)
            clear hc hp
            have WS := Lib.hid (wstr_ok _ _ _ px W8 HB8.out (by rw [HTL.out]; omega) (by rw [HNL.out]; omega) HC8.out.size)
            go_wp2_with (go_at_call 54; refine WS.out.mono ?_; rintro e w3 ⟨rfl, b3, k3⟩; have B3 := Lib.hid b3; have K3 := Lib.hid (HC8.out.belowT k3); clear b3 k3)
            go_roundw
            case rel => exact ⟨k + 1, by omega, by go_num, by rw [HT.out]; exact B3.out, K3.out⟩
            case measure => simp [intOf]; omega
        · obtain rfl : k = np := by omega
          have f1 := decide_eq_false (show ¬ ((k : Nat) : Int) < k by omega)
          have f2 := decide_eq_false (show ¬ k < k by omega)
          go_wp2_with fail
          have HJB : Hid ((jpages d h.bank k).take h.size = jbytes d h) := Lib.hid (by unfold jbytes; rw [HNP.out])
          have hl0 := HPL.out k (Nat.le_refl _)
          have hsl : h.size ≤ (jpages d h.bank k).length := by rw [hl0, ← HNP.out]; omega
          generalize jpages d h.bank k = s0 at *
          have hx1 : (⟨s0.toArray⟩ : ByteArray).extract 0 h.size = ⟨(s0.take h.size).toArray⟩ := by rw [ByteArray.extract_mk]; simp
          have hz0 : (⟨s0.toArray⟩ : ByteArray).size = s0.length := by simp [ByteArray.size]
          have hs0 : (0 : Int) ≤ h.size := by omega
          have hs9 : (h.size : Int) ≤ s0.length := by omega
          rw [HJB.out] at hx1
          clear hl0
          have hjl : (jbytes d h).length = h.size := by rw [← HJB.out, List.length_take]; omega
          have JL3 := Lib.hid (jload3 (d := d) (h := h) hb1 hs1)
          have JL4 := Lib.hid (jload4 (d := d) (h := h) hb1 hs1)
          have JL5 := Lib.hid (@jload5 d h hb1 hs1)
          have JL6 := Lib.hid (@jload6 d h hb1 hs1)
          have JTN : Hid (∀ k n : Nat, jtake k (jbytes d h) = none → k ≤ n → jtake n (jbytes d h) = none) := Lib.hid (fun k n a b => jtake_none a b)
          have JTS : Hid (∀ k, jtake (k + 1) (jbytes d h) = match jtake k (jbytes d h) with | none => none | some (l, r) => match jcut r with | none => none | some (x, t) => some (l ++ [x], t)) := Lib.hid (fun k => rfl)
          have JT0 : Hid (jtake 0 (jbytes d h) = some ([], jbytes d h)) := Lib.hid rfl
          generalize jbytes d h = ss at *
          clear HPS HPL HL RD FS HRG
          refine wp_region_par 5 [] [] [(0, 0)] [(0, 0)] [fun wx => BU wx W1.heap.size W1.heap.size s0] (fun wx => Kept NoM W1 wx)
                [fun v _ => v = .string ⟨s0.toArray⟩, fun v _ => v = .pointer (some ⟨g, 2, none⟩), fun v _ => v = .int .i64 h.size, fun v _ => v = .string ⟨ss.toArray⟩, fun v wx => ∃ c8, (v = .pointer (some ⟨c8, 0, none⟩) ∧ W1.heap.size ≤ c8) ∧ wx.heap[c8]? = some (.cells #[.string ⟨#[]⟩] 9 (0, 0))] (by kernel_rfl) (by kernel_rfl) (by kernel_rfl) (HK.out.drew) (inits_one (HB.out.kept ((Kept.refl _ _).drew))) ?_ ?_
          · intro i hi9
            have hst := stab_all (posts := [fun v _ => v = .string ⟨s0.toArray⟩, fun v _ => v = .pointer (some ⟨g, 2, none⟩), fun v _ => v = .int .i64 h.size, fun v _ => v = .string ⟨ss.toArray⟩, fun v wx => ∃ c8, (v = .pointer (some ⟨c8, 0, none⟩) ∧ W1.heap.size ≤ c8) ∧ wx.heap[c8]? = some (.cells #[.string ⟨#[]⟩] 9 (0, 0))])        (stab_cons (stab_const _) (stab_cons (stab_const _) (stab_cons (stab_const _) (stab_cons (stab_const _) (stab_cons (stab_blk (fun c8 v => v = .pointer (some ⟨c8, 0, none⟩) ∧ W1.heap.size ≤ c8) (fun c8 => c8) (fun c8 => .cells #[.string ⟨#[]⟩] 9 (0, 0))) stab_nil)))))
            have hist := init_stab (inits := [fun wx => BU wx W1.heap.size W1.heap.size s0]) (fun p h => by rcases List.mem_cons.1 h with rfl | h; exact fun w w' k h => h.kept k; cases h)
            have HST := Lib.hid hst
            have HIST := Lib.hid hist
            clear hst hist
            rcases (show i = 0 ∨ i = 1 ∨ i = 2 ∨ i = 3 ∨ i = 4 by omega) with rfl | rfl | rfl | rfl | rfl
            · refine asks_intro ?_; intro o ho a wx hc hout hp hi R hR; cases ho
              have hbi : BU wx W1.heap.size W1.heap.size s0 := hi 0 rfl
              have e4 : a.tmps[4]? = some (.pointer (some ⟨W1.heap.size, 0, none⟩)) := hout 4 rfl
              go_simp
              refine (bstr_k _ _ s0 wx hbi hc.size).mono ?_
              rintro e w2 ⟨rfl, b2, o2⟩
              refine ⟨_, rfl, hR _ _ (hc.belowT b2) rfl (fun j hj hne hcn hwf u h => ?_) (fun q hq h => ?_)⟩
              · rcases (show j = 0 ∨ j = 1 ∨ j = 2 ∨ j = 3 ∨ j = 4 by omega) with rfl | rfl | rfl | rfl | rfl <;> first | exact h | exact absurd hcn (by decide) | exact absurd rfl hne | (obtain ⟨c8, q1, q2⟩ := h; exact ⟨c8, q1, o2 c8 _ q2 (fun e => by obtain ⟨bp, bv, hbb⟩ := hbi.blk; cases e; exact absurd (hbb.symm.trans q2) (by simp)) (fun c fz e => by simp at e)⟩) | exact absurd (hwf.symm.trans (by kernel_rfl)) Bool.false_ne_true
              · match q with
                | 0 => exact absurd hq (by decide)
                | q + 1 => trivial
            · refine asks_intro ?_; intro o ho a wx hc hout hp hi R hR; cases ho
              have e3 : a.tmps[3]? = some (.pointer (some ⟨g, 0, none⟩)) := hout 3 rfl
              go_simp
              exact hR _ _ hc rfl (fun _ _ _ _ _ u h => h) (fun _ _ h => h)
            · refine asks_intro ?_; intro o ho a wx hc hout hp hi R hR; cases ho
              have e58 : a.tmps[58]?.getD undef = .pointer (some ⟨g, 2, none⟩) := hp 1 (by omega) rfl
              have gb := hc.blk HG.out (fun x => x)
              have g2 := cell_blk gb 2 _ rfl
              go_simp
              exact hR _ _ hc rfl (fun _ _ _ _ _ u h => h) (fun _ _ h => h)
            · refine asks_intro ?_; intro o ho a wx hc hout hp hi R hR; cases ho
              have e57 : a.tmps[57]?.getD undef = .string ⟨s0.toArray⟩ := hp 0 (by omega) rfl
              have e59 : a.tmps[59]?.getD undef = .int .i64 h.size := hp 2 (by omega) rfl
              go_simp
              exact hR _ _ hc rfl (fun _ _ _ _ _ u h => h) (fun _ _ h => h)
            · refine asks_intro ?_; intro o ho a wx hc hout hp hi R hR; cases ho
              go_simp
              exact hR _ _ (hc.alloc _) ⟨_, ⟨rfl, hc.size⟩, blk_new _ _⟩ (fun j _ _ _ _ u h => HST.out j u _ _ ((Kept.refl _ _).alloc _) h) (fun j _ h => HIST.out j _ _ ((Kept.refl _ _).alloc _) h)
          · intro vs w' hc hp
            have e57 : vs 0 = .string ⟨s0.toArray⟩ := hp 0 (by omega) rfl
            have e58 : vs 1 = .pointer (some ⟨g, 2, none⟩) := hp 1 (by omega) rfl
            have e59 : vs 2 = .int .i64 h.size := hp 2 (by omega) rfl
            have e60 : vs 3 = .string ⟨ss.toArray⟩ := hp 3 (by omega) rfl
            obtain ⟨c8, e8, hb8⟩ : ∃ c8, (vs 4 = .pointer (some ⟨c8, 0, none⟩) ∧ W1.heap.size ≤ c8) ∧ w'.heap[c8]? = some (.cells #[.string ⟨#[]⟩] 9 (0, 0)) := hp 4 (by omega) rfl
            simp only [List.take_succ_cons, List.take_zero, List.drop_succ_cons, List.drop_zero, putAll, Act.put, List.setIfInBounds_toArray, List.set_cons_zero, List.set_cons_succ, Nat.reduceAdd, e57, e58, e59, e60]
            obtain ⟨e8, hg8⟩ := e8
            rw [e8]
            change wpList _ _ _ _ _ _
            obtain ⟨wb, ewb, kb, lb⟩ : ∃ wb, w' = putB wb c8 #[.string ⟨#[]⟩] 9 ∧ Kept NoM W1 wb ∧ c8 < wb.heap.size := ⟨w', putB_self hb8, hc, lt_of_block hb8⟩
            have HGG := Lib.hid (And.intro hg8 (And.intro kb lb))
            rw [ewb]
            clear ewb hc hb8 hp kb hg8 e57 e58 e59 hs9 hs0 hsl hz0 hx1
            go_wp2_with fail
            obtain ⟨W3, hW3⟩ : ∃ W3, putB wb c8 #[.string ⟨ss.toArray⟩] 9 = W3 := ⟨_, rfl⟩
            have HC3 : Hid (W3.heap[c8]? = some (.cells #[.string ⟨ss.toArray⟩] 9 (0, 0))) := Lib.hid (by rw [← hW3]; exact putB_blk _ _ _ _ HGG.out.2.2)
            have HW3 : Hid (Kept NoM W1 W3) := Lib.hid (by rw [← hW3]; exact HGG.out.2.1.putN HGG.out.1 _ _)
            have HC8 := Lib.hid HGG.out.1
            rw [hW3]
            clear hW3 HGG
            by_cases hcrc : crc 0 ss = h.sum
            · have f1 : ((crc 0 ss : Nat) : Int) = h.sum := by omega
              refine wp_region_par 5 [] [] [] [] [] (fun wx => Kept NoM W3 wx)
                    [fun v _ => v = .string ⟨ss.toArray⟩, fun v _ => v = .int .u32 (crc 0 ss), fun v _ => v = .pointer (some ⟨g, 4, none⟩), fun v _ => v = .int .u32 h.sum, fun v _ => v = .bool false] (by kernel_rfl) (by kernel_rfl) (by kernel_rfl) ((Kept.refl _ _).drew) (inits_nil) ?_ ?_
              · intro i hi9
                have hst := stab_all (posts := [fun v _ => v = .string ⟨ss.toArray⟩, fun v _ => v = .int .u32 (crc 0 ss), fun v _ => v = .pointer (some ⟨g, 4, none⟩), fun v _ => v = .int .u32 h.sum, fun v _ => v = .bool false])        (stab_cons (stab_const _) (stab_cons (stab_const _) (stab_cons (stab_const _) (stab_cons (stab_const _) (stab_cons (stab_const _) stab_nil)))))
                have hist := init_stab (inits := []) (fun p h => by cases h)
                have HST := Lib.hid hst
                have HIST := Lib.hid hist
                clear hst hist
                rcases (show i = 0 ∨ i = 1 ∨ i = 2 ∨ i = 3 ∨ i = 4 by omega) with rfl | rfl | rfl | rfl | rfl
                · refine asks_intro ?_; intro o ho a wx hc hout hp hi R hR; cases ho
                  have e8 : a.tmps[8]? = some (.pointer (some ⟨c8, 0, none⟩)) := hout 8 rfl
                  have cb := hc.blk HC3.out (fun x => x)
                  have c1 := cell_blk cb 0 _ rfl
                  go_simp
                  exact hR _ _ hc rfl (fun _ _ _ _ _ u h => h) (fun _ _ h => h)
                · refine asks_intro ?_; intro o ho a wx hc hout hp hi R hR; cases ho
                  have e61 : a.tmps[61]?.getD undef = .string ⟨ss.toArray⟩ := hp 0 (by omega) rfl
                  go_simp
                  refine (crc_ok 0 (by omega) ss (by omega) wx).mono ?_
                  rintro e w2 ⟨rfl, k1⟩
                  exact ⟨_, rfl, hR _ _ (hc.trans k1) rfl (fun j _ _ _ _ u h => HST.out j u _ _ k1 h) (fun j _ h => HIST.out j _ _ k1 h)⟩
                · refine asks_intro ?_; intro o ho a wx hc hout hp hi R hR; cases ho
                  have e3 : a.tmps[3]? = some (.pointer (some ⟨g, 0, none⟩)) := hout 3 rfl
                  go_simp
                  exact hR _ _ hc rfl (fun _ _ _ _ _ u h => h) (fun _ _ h => h)
                · refine asks_intro ?_; intro o ho a wx hc hout hp hi R hR; cases ho
                  have e63 : a.tmps[63]?.getD undef = .pointer (some ⟨g, 4, none⟩) := hp 2 (by omega) rfl
                  have gb := (HW3.out.trans hc).blk HG.out (fun x => x)
                  have g4 := cell_blk gb 4 _ rfl
                  go_simp
                  exact hR _ _ hc rfl (fun _ _ _ _ _ u h => h) (fun _ _ h => h)
                · refine asks_intro ?_; intro o ho a wx hc hout hp hi R hR; cases ho
                  have e62 : a.tmps[62]?.getD undef = .int .u32 (crc 0 ss) := hp 1 (by omega) rfl
                  have e64 : a.tmps[64]?.getD undef = .int .u32 h.sum := hp 3 (by omega) rfl
                  go_simp
                  exact hR _ _ hc rfl (fun _ _ _ _ _ u h => h) (fun _ _ h => h)
              · intro vs W4 hc hp
                have e61 : vs 0 = .string ⟨ss.toArray⟩ := hp 0 (by omega) rfl
                have e62 : vs 1 = .int .u32 (crc 0 ss) := hp 1 (by omega) rfl
                have e63 : vs 2 = .pointer (some ⟨g, 4, none⟩) := hp 2 (by omega) rfl
                have e64 : vs 3 = .int .u32 h.sum := hp 3 (by omega) rfl
                have e65 : vs 4 = .bool false := hp 4 (by omega) rfl
                simp only [List.take_succ_cons, List.take_zero, List.drop_succ_cons, List.drop_zero, putAll, Act.put, List.setIfInBounds_toArray, List.set_cons_zero, List.set_cons_succ, Nat.reduceAdd, e61, e62, e63, e64, e65]
                change wpList _ _ _ _ _ _
                have HC4 := Lib.hid hc
                clear hc hp
                have gb := (HW3.out.trans HC4.out).blk HG.out (fun x => x)
                have g3 := cell_blk gb 3 _ rfl
                clear gb
                go_wp2_with fail
                have A0 : ∃ (acc : List Pg) (r : Pg), jtake 0 ss = some (acc, r) ∧ acc.length = 0 ∧ r.length ≤ ss.length ∧ W4.heap[c8]? = some (.cells #[.string ⟨r.toArray⟩] 9 (0, 0)) ∧ (∃ va vc O, W4.heap[J]? = some (.cells (jC D h (.slice va acc.length vc) false) 86 (0, 0)) ∧ OwnS W4 O 9 1 EStr (.slice va acc.length vc) acc ∧ ∀ o, O = some o → w.heap.size ≤ o ∧ o ≠ c8) ∧ Kept (fun i => i = J) w W4 :=
                  ⟨[], ss, JT0.out, rfl, Nat.le_refl _, HC4.out.blk HC3.out (fun x => x), ⟨none, 0, none, (HW.out.trans (HW3.out.trans HC4.out)).blk HJ.out (fun x => x), OwnS.nil _ _ _ _, fun o ho => by cases ho⟩, (HW.out.trans (HW3.out.trans HC4.out)).of_no⟩
                have HNC : Hid (c8 ≠ J) := Lib.hid (by have := HC8.out; have := HW.out.size; have := HLT.out; omega)
                have HCRC := Lib.hid hcrc
                clear g3 f1 hcrc
                go_loopw [69] (fun i wr => ∃ k : Nat, k ≤ h.count ∧ i = .int .i64 k ∧ ∃ (acc : List Pg) (r : Pg), jtake k ss = some (acc, r) ∧ acc.length = k ∧ r.length ≤ ss.length ∧ wr.heap[c8]? = some (.cells #[.string ⟨r.toArray⟩] 9 (0, 0)) ∧ (∃ va vc O, wr.heap[J]? = some (.cells (jC D h (.slice va acc.length vc) false) 86 (0, 0)) ∧ OwnS wr O 9 1 EStr (.slice va acc.length vc) acc ∧ ∀ o, O = some o → w.heap.size ≤ o ∧ o ≠ c8) ∧ Kept (fun i => i = J) w wr) (fun i _ => h.count - (intOf i).toNat)
                case atStart => exact ⟨0, Nat.zero_le _, rfl, A0⟩
                case round =>
                  obtain ⟨k, hk, rfl, acc, r, htk, hal, hrl, hc8, ⟨va, vc, O, hjb, how, hnew⟩, hkw⟩ := hrel
                  have HTK := Lib.hid htk
                  have HAL := Lib.hid hal
                  have HC2 := Lib.hid hc8
                  have HJb := Lib.hid hjb
                  have HO := Lib.hid (And.intro how hnew)
                  have HKW := Lib.hid hkw
                  have halb : acc.length ≤ h.count := by omega
                  clear htk hc8 hjb how hnew hkw A0 hal
                  by_cases hlt2 : k < h.count
                  · have hki : (k : Int) < h.count := by omega
                    by_cases hq1 : r.length < 2
                    · have JN := Lib.hid (JL4.out HCRC.out (JTN.out (k + 1) h.count (by rw [JTS.out k, HTK.out]; simp only [jcut1 hq1]) hlt2))
                      have CT := Lib.hid (cut_short c8 r wr HC2.out hq1)
                      unfold strV at CT
                      go_wp2_with (go_at_call 56; refine CT.out.mono ?_; rintro e w1 ⟨rfl, rfl⟩)
                      first
                      | exact QN.out _ JN.out HKW.out
                      | (go_ret; exact ⟨QN.out _ JN.out HKW.out, trivial⟩)
                    · by_cases hq2 : r.length - 2 < getN (r.take 2)
                      · have JN := Lib.hid (JL4.out HCRC.out (JTN.out (k + 1) h.count (by rw [JTS.out k, HTK.out]; simp only [jcut2 hq1 hq2]) hlt2))
                        have CT := Lib.hid (cut_less c8 r _ rfl wr HC2.out (by omega) hq1 hq2)
                        unfold strV at CT
                        go_wp2_with (go_at_call 56; refine CT.out.mono ?_; rintro e w1 ⟨rfl, rfl⟩)
                        first
                        | exact QN.out _ JN.out HKW.out
                        | (go_ret; exact ⟨QN.out _ JN.out HKW.out, trivial⟩)
                      · have CT := Lib.hid (cut_goes c8 r _ rfl wr HC2.out (by omega) hq1 hq2)
                        have HCUT : Hid (jcut r = some ((r.drop 2).take (getN (r.take 2)), r.drop (2 + getN (r.take 2)))) := Lib.hid (jcut3 hq1 hq2)
                        have hxl : ((r.drop 2).take (getN (r.take 2))).length ≤ r.length := by rw [List.length_take, List.length_drop]; omega
                        have htl : (r.drop (2 + getN (r.take 2))).length ≤ r.length := by rw [List.length_drop]; omega
                        generalize (r.drop 2).take (getN (r.take 2)) = x at *
                        generalize r.drop (2 + getN (r.take 2)) = t at *
                        unfold strV at CT
                        have HTL := Lib.hid (Nat.le_trans htl hrl)
                        go_wp2_with (go_at_call 56; refine CT.out.mono ?_; rintro e w1 ⟨rfl, rfl⟩)
                        have kc : Kept (fun i => i = c8) wr (wr.setCell ⟨c8, 0, none⟩ (.string ⟨t.toArray⟩)) := Kept.setCell (M := fun i => i = c8) (Kept.refl _ _) (fun _ => rfl) _
                        have hC2 := blk_set HC2.out (i := 0) (.string ⟨t.toArray⟩)
                        have hJb := kc.blk HJb.out (fun e => HNC.out (Eq.symm e))
                        have hO := And.intro (HO.out.1.kept kc (fun g3 hg3 e => (HO.out.2 g3 hg3).2 e) (fun _ _ x => x)) HO.out.2
                        have hK2 : Kept (fun i => i = J) w (wr.setCell ⟨c8, 0, none⟩ (.string ⟨t.toArray⟩)) := HKW.out.trans' kc (fun i hi e => absurd hi (by have := HC8.out; have := HW.out.size; omega))
                        clear HC2 HJb HO HKW kc CT
                        have hsz5 : c8 < (wr.setCell ⟨c8, 0, none⟩ (.string ⟨t.toArray⟩)).heap.size := lt_of_block hC2
                        obtain ⟨W5, hW5⟩ : ∃ W5, wr.setCell ⟨c8, 0, none⟩ (.string ⟨t.toArray⟩) = W5 := ⟨_, rfl⟩
                        rw [hW5] at hC2 hJb hO hK2 hsz5 ⊢
                        have HC2 : Hid (W5.heap[c8]? = some (.cells #[.string ⟨t.toArray⟩] 9 (0, 0))) := Lib.hid hC2
                        have HJb := Lib.hid hJb
                        have HO := Lib.hid hO
                        have HK2 := Lib.hid hK2
                        have HSZ : Hid (c8 < W5.heap.size ∧ w.heap.size ≤ W5.heap.size) := Lib.hid ⟨hsz5, hK2.size⟩
                        clear hC2 hJb hO hK2 hW5 hsz5 htl
                        refine wp_region_par 9 [] [(7, 8)] [(8, 0)] [(0, 8)] [fun wx => OwnS wx O 9 1 EStr (.slice va acc.length vc) acc] (fun wx => Kept (fun i => some i = O) W5 wx)
                              [fun v _ => v = .pointer (some ⟨J, 0, none⟩), fun v _ => v = .pointer (some ⟨J, 0, none⟩), fun v _ => v = .pointer (some ⟨J, 0, none⟩), fun v _ => v = .pointer (some ⟨J, 6, none⟩), fun v _ => v = .slice va acc.length vc, fun v _ => v = .string ⟨x.toArray⟩, fun v _ => v = .string ⟨x.toArray⟩, fun v wx => ∃ b, (v = .slice (some ⟨b, 0, none⟩) 1 1) ∧ wx.heap[b]? = some (.cells #[.string ⟨x.toArray⟩] 9 (0, 0)), fun v wx => ∃ a8 cap8 O8, v = .slice a8 (acc.length + 1) cap8 ∧ OwnS wx O8 9 1 EStr (.slice a8 (acc.length + 1) cap8) (acc ++ [x]) ∧ ∀ o, O8 = some o → w.heap.size ≤ o ∧ o ≠ c8] (by kernel_rfl) (by kernel_rfl) (by kernel_rfl) ((Kept.refl _ _).drew) (inits_one (HO.out.1.kept ((Kept.refl NoM _).drew) (fun _ _ x => x) (fun _ _ x => x))) ?_ ?_
                        · intro i hi9
                          have hst := stab_all (posts := [fun v _ => v = .pointer (some ⟨J, 0, none⟩), fun v _ => v = .pointer (some ⟨J, 0, none⟩), fun v _ => v = .pointer (some ⟨J, 0, none⟩), fun v _ => v = .pointer (some ⟨J, 6, none⟩), fun v _ => v = .slice va acc.length vc, fun v _ => v = .string ⟨x.toArray⟩, fun v _ => v = .string ⟨x.toArray⟩, fun v wx => ∃ b, (v = .slice (some ⟨b, 0, none⟩) 1 1) ∧ wx.heap[b]? = some (.cells #[.string ⟨x.toArray⟩] 9 (0, 0)), fun v wx => ∃ a8 cap8 O8, v = .slice a8 (acc.length + 1) cap8 ∧ OwnS wx O8 9 1 EStr (.slice a8 (acc.length + 1) cap8) (acc ++ [x]) ∧ ∀ o, O8 = some o → w.heap.size ≤ o ∧ o ≠ c8])        (stab_cons (stab_const _) (stab_cons (stab_const _) (stab_cons (stab_const _) (stab_cons (stab_const _) (stab_cons (stab_const _) (stab_cons (stab_const _) (stab_cons (stab_const _) (stab_cons (stab_blk (fun b v => v = .slice (some ⟨b, 0, none⟩) 1 1) (fun b => b) (fun b => .cells #[.string ⟨x.toArray⟩] 9 (0, 0))) (stab_cons (fun _ _ _ k ⟨a8, cap8, O8, q1, q2, q3⟩ => ⟨a8, cap8, O8, q1, q2.kept k (fun _ _ x => x) (fun _ _ x => x), q3⟩) stab_nil)))))))))
                          have hist := init_stab (inits := [fun wx => OwnS wx O 9 1 EStr (.slice va acc.length vc) acc]) (fun p h => by rcases List.mem_cons.1 h with rfl | h; exact fun w w' k h => h.kept k (fun _ _ x => x) (fun _ _ x => x); cases h)
                          have HST := Lib.hid hst
                          have HIST := Lib.hid hist
                          clear hst hist
                          rcases (show i = 0 ∨ i = 1 ∨ i = 2 ∨ i = 3 ∨ i = 4 ∨ i = 5 ∨ i = 6 ∨ i = 7 ∨ i = 8 by omega) with rfl | rfl | rfl | rfl | rfl | rfl | rfl | rfl | rfl
                          · refine asks_intro ?_; intro o ho a wx hc hout hp hi R hR; cases ho
                            have e0 : a.tmps[0]? = some (.pointer (some ⟨J, 0, none⟩)) := hout 0 rfl
                            go_simp
                            exact hR _ _ hc rfl (fun _ _ _ _ _ u h => h) (fun _ _ h => h)
                          · refine asks_intro ?_; intro o ho a wx hc hout hp hi R hR; cases ho
                            have e0 : a.tmps[0]? = some (.pointer (some ⟨J, 0, none⟩)) := hout 0 rfl
                            go_simp
                            exact hR _ _ hc rfl (fun _ _ _ _ _ u h => h) (fun _ _ h => h)
                          · refine asks_intro ?_; intro o ho a wx hc hout hp hi R hR; cases ho
                            have e79 : a.tmps[79]?.getD undef = .pointer (some ⟨J, 0, none⟩) := hp 1 (by omega) rfl
                            go_simp
                            exact hR _ _ hc rfl (fun _ _ _ _ _ u h => h) (fun _ _ h => h)
                          · refine asks_intro ?_; intro o ho a wx hc hout hp hi R hR; cases ho
                            have e80 : a.tmps[80]?.getD undef = .pointer (some ⟨J, 0, none⟩) := hp 2 (by omega) rfl
                            go_simp
                            exact hR _ _ hc rfl (fun _ _ _ _ _ u h => h) (fun _ _ h => h)
                          · refine asks_intro ?_; intro o ho a wx hc hout hp hi R hR; cases ho
                            have e81 : a.tmps[81]?.getD undef = .pointer (some ⟨J, 6, none⟩) := hp 3 (by omega) rfl
                            have jb := hc.blk HJb.out (fun e => by have := (HO.out.2 J e.symm).1; have := HLT.out; omega)
                            have y6 : wx.cell? ⟨J, 6, none⟩ = some (.slice va acc.length vc) := cell_blk jb 6 _ rfl
                            go_simp
                            exact hR _ _ hc rfl (fun _ _ _ _ _ u h => h) (fun _ _ h => h)
                          · refine asks_intro ?_; intro o ho a wx hc hout hp hi R hR; cases ho
                            have e10 : a.tmps[10]? = some (.string ⟨x.toArray⟩) := hout 10 rfl
                            go_simp
                            exact hR _ _ hc rfl (fun _ _ _ _ _ u h => h) (fun _ _ h => h)
                          · refine asks_intro ?_; intro o ho a wx hc hout hp hi R hR; cases ho
                            have e83 : a.tmps[83]?.getD undef = .string ⟨x.toArray⟩ := hp 5 (by omega) rfl
                            go_simp
                            refine (strclone_ok x (by omega) wx).mono ?_
                            rintro e w2 ⟨rfl, k1⟩
                            exact ⟨_, rfl, hR _ _ (hc.trans k1.of_no) rfl (fun j _ _ _ _ u h => HST.out j u _ _ k1 h) (fun j _ h => HIST.out j _ _ k1 h)⟩
                          · refine asks_intro ?_; intro o ho a wx hc hout hp hi R hR; cases ho
                            have e84 : a.tmps[84]?.getD undef = .string ⟨x.toArray⟩ := hp 6 (by omega) rfl
                            go_simp
                            exact hR _ _ (hc.alloc _) ⟨_, rfl, blk_new _ _⟩ (fun j _ _ _ _ u h => HST.out j u _ _ ((Kept.refl _ _).alloc _) h) (fun j _ h => HIST.out j _ _ ((Kept.refl _ _).alloc _) h)
                          · refine asks_intro ?_; intro o ho a wx hc hout hp hi R hR; cases ho
                            have e82 : a.tmps[82]?.getD undef = .slice va acc.length vc := hp 4 (by omega) rfl
                            obtain ⟨b, e85, hb85⟩ : ∃ b, (a.tmps[85]?.getD undef = .slice (some ⟨b, 0, none⟩) 1 1) ∧ wx.heap[b]? = some (.cells #[.string ⟨x.toArray⟩] 9 (0, 0)) := hp 7 (by omega) rfl
                            have hbi : OwnS wx O 9 1 EStr (.slice va acc.length vc) acc := hi 0 rfl
                            refine gives_append_S (M := NoM) (ys := [x]) (.tmp 82) (.tmp 85) 42 rfl 16 tyStrs (.slice va acc.length vc) (by go_simp) hbi (.slice (some ⟨b, 0, none⟩) 1 1) (by go_simp) (one_str hb85) eStr_one (by unfold maxLen; simp; omega) (by simp; omega) ?_
                            intro a8 cap8 w2 O8 q1 q2 q3
                            refine hR _ _ (hc.trans q2) ⟨a8, cap8, O8, rfl, q1, fun o ho => ?_⟩ (fun j hj hne hcn hwf u h => ?_) (fun q hq h => ?_)
                            · rcases q3 with q3 | ⟨g3, q3, q4⟩
                              · exact HO.out.2 o (q3.symm.trans ho)
                              · rw [ho] at q3; cases q3; have := hc.size; have := HSZ.out; omega
                            · rcases (show j = 0 ∨ j = 1 ∨ j = 2 ∨ j = 3 ∨ j = 4 ∨ j = 5 ∨ j = 6 ∨ j = 7 ∨ j = 8 by omega) with rfl | rfl | rfl | rfl | rfl | rfl | rfl | rfl | rfl <;> first | exact h | exact absurd hcn (by decide) | exact absurd rfl hne | exact absurd (hwf.symm.trans (by kernel_rfl)) Bool.false_ne_true
                            · match q with
                              | 0 => exact absurd hq (by decide)
                              | q + 1 => trivial
                        · intro vs w10 hc hp
                          have e78 : vs 0 = .pointer (some ⟨J, 0, none⟩) := hp 0 (by omega) rfl
                          have e79 : vs 1 = .pointer (some ⟨J, 0, none⟩) := hp 1 (by omega) rfl
                          have e80 : vs 2 = .pointer (some ⟨J, 0, none⟩) := hp 2 (by omega) rfl
                          have e81 : vs 3 = .pointer (some ⟨J, 6, none⟩) := hp 3 (by omega) rfl
                          have e82 : vs 4 = .slice va acc.length vc := hp 4 (by omega) rfl
                          have e83 : vs 5 = .string ⟨x.toArray⟩ := hp 5 (by omega) rfl
                          have e84 : vs 6 = .string ⟨x.toArray⟩ := hp 6 (by omega) rfl
                          obtain ⟨a8, cap8, O8, e86, o8, n8⟩ : ∃ a8 cap8 O8, vs 8 = .slice a8 (acc.length + 1) cap8 ∧ OwnS w10 O8 9 1 EStr (.slice a8 (acc.length + 1) cap8) (acc ++ [x]) ∧ ∀ o, O8 = some o → w.heap.size ≤ o ∧ o ≠ c8 := hp 8 (by omega) rfl
                          simp only [List.take_succ_cons, List.take_zero, List.drop_succ_cons, List.drop_zero, putAll, Act.put, List.setIfInBounds_toArray, List.set_cons_zero, List.set_cons_succ, Nat.reduceAdd, e78, e79, e80, e81, e82, e83, e84]
                          change wpList _ _ _ _ _ _
                          have jb := hc.blk HJb.out (fun e => by have := (HO.out.2 J e.symm).1; have := HLT.out; omega)
                          have y6 : w10.cell? ⟨J, 6, none⟩ = some (.slice va acc.length vc) := cell_blk jb 6 _ rfl
                          have y7 := free_blk jb 6
                          have HC9 := Lib.hid hc
                          have HO9 := Lib.hid (And.intro o8 n8)
                          have HJ9 := Lib.hid jb
                          clear hc hp jb o8 n8 e78 e79 e80 e81 e82 e83 e84
                          go_wp2_with fail
                          go_roundw
                          case rel =>
                            have kj : Kept (fun i => i = J) w10 (w10.setCell ⟨J, 6, none⟩ (.slice a8 (acc.length + 1) cap8)) := Kept.setCell (M := fun i => i = J) (Kept.refl _ _) (fun _ => rfl) _
                            have hC9 : ∀ i, some i = O → w.heap.size ≤ i ∧ i ≠ c8 := fun i hi => HO.out.2 i hi.symm
                            refine ⟨k + 1, by omega, by go_num, acc ++ [x], t, by rw [JTS.out k, HTK.out]; simp only [HCUT.out], by rw [List.length_append, HAL.out]; rfl, by have := HTL.out; omega, ?_, ⟨a8, cap8, O8, ?_, ?_, HO9.out.2⟩, ?_⟩
                            · exact kj.blk (HC9.out.blk HC2.out (fun e => (hC9 c8 e).2 rfl)) (fun e => HNC.out e)
                            · have := blk_set HJ9.out (i := 6) (.slice a8 (acc.length + 1) cap8); rw [List.length_append]; exact this
                            · have := HO9.out.1.kept kj (fun g3 hg3 e => by have := (HO9.out.2 g3 hg3).1; have := HLT.out; omega) (fun _ _ x => x); rw [List.length_append]; exact this
                            · exact (HK2.out.trans' HC9.out (fun i hi e => absurd (hC9 i e).1 (by omega))).trans' kj (fun i _ e => e)
                          case measure => simp [intOf]; omega
                  · obtain rfl : k = h.count := by omega
                    have f1 := decide_eq_false (show ¬ ((h.count : Nat) : Int) < h.count by omega)
                    have f2 := decide_eq_false (show ¬ h.count < h.count by omega)
                    have cb := cell_blk HC2.out 0 _ rfl
                    cases r with
                    | nil =>
                      have JY := Lib.hid (JL6.out HCRC.out (l := acc) HTK.out)
                      have HJS : Hid (JS wr J D G B d h acc false) := Lib.hid ⟨HS.out.p.kept HKW.out (fun e => HNE.out (.inl e.symm)) (fun e => HNE.out (.inr (.inl e.symm))) (fun e => HNE.out (.inr (.inr e.symm))), HNE.out, va, vc, HJb.out, HO.out.1.rd (fun g3 hg3 hin => by have := (HO.out.2 g3 hg3).1; have := HIL.out g3 hin; omega)⟩
                      go_wp2_with fail
                      first
                      | exact QY.out _ _ JY.out HJS.out HKW.out
                      | (go_ret; exact ⟨QY.out _ _ JY.out HJS.out HKW.out, trivial⟩)
                    | cons c r =>
                      have JN := Lib.hid (JL5.out HCRC.out HTK.out (by simp))
                      go_wp2_with fail
                      first
                      | exact QN.out _ JN.out HKW.out
                      | (go_ret; exact ⟨QN.out _ JN.out HKW.out, trivial⟩)
            · have f1 : ((((crc 0 ss : Nat) : Int)) != (h.sum : Int)) = true := by simp; omega
              refine wp_region_par 5 [] [] [] [] [] (fun wx => Kept NoM W3 wx)
                    [fun v _ => v = .string ⟨ss.toArray⟩, fun v _ => v = .int .u32 (crc 0 ss), fun v _ => v = .pointer (some ⟨g, 4, none⟩), fun v _ => v = .int .u32 h.sum, fun v _ => v = .bool true] (by kernel_rfl) (by kernel_rfl) (by kernel_rfl) ((Kept.refl _ _).drew) (inits_nil) ?_ ?_
              · intro i hi9
                have hst := stab_all (posts := [fun v _ => v = .string ⟨ss.toArray⟩, fun v _ => v = .int .u32 (crc 0 ss), fun v _ => v = .pointer (some ⟨g, 4, none⟩), fun v _ => v = .int .u32 h.sum, fun v _ => v = .bool true])        (stab_cons (stab_const _) (stab_cons (stab_const _) (stab_cons (stab_const _) (stab_cons (stab_const _) (stab_cons (stab_const _) stab_nil)))))
                have hist := init_stab (inits := []) (fun p h => by cases h)
                have HST := Lib.hid hst
                have HIST := Lib.hid hist
                clear hst hist
                rcases (show i = 0 ∨ i = 1 ∨ i = 2 ∨ i = 3 ∨ i = 4 by omega) with rfl | rfl | rfl | rfl | rfl
                · refine asks_intro ?_; intro o ho a wx hc hout hp hi R hR; cases ho
                  have e8 : a.tmps[8]? = some (.pointer (some ⟨c8, 0, none⟩)) := hout 8 rfl
                  have cb := hc.blk HC3.out (fun x => x)
                  have c1 := cell_blk cb 0 _ rfl
                  go_simp
                  exact hR _ _ hc rfl (fun _ _ _ _ _ u h => h) (fun _ _ h => h)
                · refine asks_intro ?_; intro o ho a wx hc hout hp hi R hR; cases ho
                  have e61 : a.tmps[61]?.getD undef = .string ⟨ss.toArray⟩ := hp 0 (by omega) rfl
                  go_simp
                  refine (crc_ok 0 (by omega) ss (by omega) wx).mono ?_
                  rintro e w2 ⟨rfl, k1⟩
                  exact ⟨_, rfl, hR _ _ (hc.trans k1) rfl (fun j _ _ _ _ u h => HST.out j u _ _ k1 h) (fun j _ h => HIST.out j _ _ k1 h)⟩
                · refine asks_intro ?_; intro o ho a wx hc hout hp hi R hR; cases ho
                  have e3 : a.tmps[3]? = some (.pointer (some ⟨g, 0, none⟩)) := hout 3 rfl
                  go_simp
                  exact hR _ _ hc rfl (fun _ _ _ _ _ u h => h) (fun _ _ h => h)
                · refine asks_intro ?_; intro o ho a wx hc hout hp hi R hR; cases ho
                  have e63 : a.tmps[63]?.getD undef = .pointer (some ⟨g, 4, none⟩) := hp 2 (by omega) rfl
                  have gb := (HW3.out.trans hc).blk HG.out (fun x => x)
                  have g4 := cell_blk gb 4 _ rfl
                  go_simp
                  exact hR _ _ hc rfl (fun _ _ _ _ _ u h => h) (fun _ _ h => h)
                · refine asks_intro ?_; intro o ho a wx hc hout hp hi R hR; cases ho
                  have e62 : a.tmps[62]?.getD undef = .int .u32 (crc 0 ss) := hp 1 (by omega) rfl
                  have e64 : a.tmps[64]?.getD undef = .int .u32 h.sum := hp 3 (by omega) rfl
                  go_simp
                  exact hR _ _ hc rfl (fun _ _ _ _ _ u h => h) (fun _ _ h => h)
              · intro vs W4 hc hp
                have e61 : vs 0 = .string ⟨ss.toArray⟩ := hp 0 (by omega) rfl
                have e62 : vs 1 = .int .u32 (crc 0 ss) := hp 1 (by omega) rfl
                have e63 : vs 2 = .pointer (some ⟨g, 4, none⟩) := hp 2 (by omega) rfl
                have e64 : vs 3 = .int .u32 h.sum := hp 3 (by omega) rfl
                have e65 : vs 4 = .bool true := hp 4 (by omega) rfl
                simp only [List.take_succ_cons, List.take_zero, List.drop_succ_cons, List.drop_zero, putAll, Act.put, List.setIfInBounds_toArray, List.set_cons_zero, List.set_cons_succ, Nat.reduceAdd, e61, e62, e63, e64, e65]
                change wpList _ _ _ _ _ _
                have HC4 := Lib.hid hc
                have JN := Lib.hid (JL3.out hcrc)
                clear hc hp
                go_wp2_with fail
                first
                | exact QN.out _ JN.out (HW.out.trans (HW3.out.trans HC4.out)).of_no
                | (go_ret; exact ⟨QN.out _ JN.out (HW.out.trans (HW3.out.trans HC4.out)).of_no, trivial⟩)
end
end Go.Proofs.Ytjcmnobfdidnkaa
