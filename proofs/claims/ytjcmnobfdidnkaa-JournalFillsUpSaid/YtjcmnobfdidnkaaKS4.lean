/- Walks of the specification: whether a script is short; a call. -/
import Derived.Test.YtjcmnobfdidnkaaKS3
set_option linter.unusedVariables false
set_option linter.unusedSimpArgs false
set_option linter.unusedSectionVars false
namespace Go.Proofs.Ytjcmnobfdidnkaa
open Go.RowKit
set_option maxHeartbeats 4000000
set_option maxRecDepth 4000
def EJo (c : List Value) (o : Jo) : Prop := c = (joC o).toList
def fewJo (o : Jo) : Bool := decide (o.n ≤ 8200) && decide (o.k ≤ 20) && !(decide (600 < o.n) && decide (1 < o.k))
def fewJ (l : List Jo) : Bool := decide (l.length ≤ 10) && l.all fewJo
theorem fewJ_bad {l : List Jo} {k : Nat} {x : Jo} (hx : l[k]? = some x) (h : fewJo x = false) : fewJ l = false := by
  unfold fewJ
  have : l.all fewJo = false := by
    rw [List.all_eq_false]
    exact ⟨x, List.mem_of_getElem? hx, by rw [h]; simp⟩
  rw [this]; simp
theorem fewJ_good {l : List Jo} (hl : l.length ≤ 10) (h : ∀ (j : Nat) (x : Jo), j < l.length → l[j]? = some x → fewJo x = true) : fewJ l = true := by
  unfold fewJ
  rw [decide_eq_true hl, Bool.true_and, List.all_eq_true]
  intro x hx
  obtain ⟨j, hj⟩ := List.mem_iff_getElem?.1 hx
  exact h j x (List.getElem?_eq_some_iff.1 hj).1 hj
theorem rfew_ok (v : Value) (l : List Jo) (w : World) (h : RdS w NoM 4 EJo v l) : Calls Try.prog 8 #[v] w fun e w' => e = .returned (.bool (fewJ l)) ∧ Kept NoM w w' := by
  obtain ⟨a, cap, rfl, hcap, hmx⟩ := RdS.shape h
  unfold maxLen at hmx
  have HH := Lib.hid h
  clear h
  by_cases h10 : 10 < l.length
  · have HF := Lib.hid (show fewJ l = false by unfold fewJ; rw [decide_eq_false (by omega)]; rfl)
    have f1 : (l.length : Int) > 10 := by omega
    rw [HF.out]
    go_enter Try.func8, Try.ntmps8
    go_wp2_with fail
    go_ret
    exact ⟨rfl, Kept.refl _ _⟩
  · have f1 : ¬ (l.length : Int) > 10 := by omega
    have HG := Lib.hid (@fewJ_good l (by omega))
    have HX2 : Hid (∀ (k : Nat) (x : Jo), l[k]? = some x → fewJo x = false → fewJ l = false) := Lib.hid (fun k x a b => fewJ_bad a b)
    suffices hQ : ∀ Q : Ending → World → Prop, (∀ w', Kept NoM w w' → Q (.returned (.bool (fewJ l))) w') → Calls Try.prog 8 #[.slice a l.length cap] w fun e w' => Q e w' ∧ True by
      exact (hQ _ (fun w' k => ⟨rfl, k⟩)).mono (fun _ _ h => h.1)
    intro Q qq
    have QT : Hid (fewJ l = true → ∀ w', Kept NoM w w' → Q (.returned (.bool true)) w') := Lib.hid (fun e w' k => by have := qq w' k; rw [e] at this; exact this)
    have QF : Hid (fewJ l = false → ∀ w', Kept NoM w w' → Q (.returned (.bool false)) w') := Lib.hid (fun e w' k => by have := qq w' k; rw [e] at this; exact this)
    clear qq
    go_enter Try.func8, Try.ntmps8
    go_wp2_with fail
    go_loopw [3] (fun i wr => ∃ k : Nat, k ≤ l.length ∧ i = .int .i64 k ∧ (∀ (j : Nat) (x : Jo), j < k → l[j]? = some x → fewJo x = true) ∧ Kept NoM w wr) (fun i _ => l.length - (intOf i).toNat)
    case atStart => exact ⟨0, Nat.zero_le _, rfl, (fun j x hj => by omega), Kept.refl _ _⟩
    case round =>
      obtain ⟨k, hk, rfl, hall, hK⟩ := hrel
      have HALL := Lib.hid hall
      have HK := Lib.hid hK
      clear hall hK
      by_cases hlt : k < l.length
      · have hki : (k : Int) < l.length := by omega
        obtain ⟨x, hx⟩ := getAt hlt
        obtain ⟨b, off, e1, _, cs, rfl, _, hc⟩ := (HH.out.kept HK.out (fun _ _ x => x)).at hx
        subst e1
        have x0 := hc 0 _ rfl
        have x1 := hc 1 _ rfl
        have x2 := hc 2 _ rfl
        have x3 := hc 3 _ rfl
        simp only [Nat.add_zero] at x0
        have HX := Lib.hid hx
        clear hc hx
        by_cases c1 : x.n > 8200
        · have HF := Lib.hid (HX2.out _ _ HX.out (show fewJo x = false by unfold fewJo; rw [decide_eq_false (p := x.n ≤ 8200) (by omega)]; rfl))
          go_wp2_with fail
          first
          | exact QF.out HF.out _ HK.out
          | (go_ret; exact ⟨QF.out HF.out _ HK.out, trivial⟩)
        · by_cases c2 : x.k > 20
          · have HF := Lib.hid (HX2.out _ _ HX.out (show fewJo x = false by unfold fewJo; rw [decide_eq_false (p := x.k ≤ 20) (by omega)]; simp))
            go_wp2_with fail
            first
            | exact QF.out HF.out _ HK.out
            | (go_ret; exact ⟨QF.out HF.out _ HK.out, trivial⟩)
          · by_cases c3 : x.n > 600
            · by_cases c4 : x.k > 1
              · have HF := Lib.hid (HX2.out _ _ HX.out (show fewJo x = false by unfold fewJo; rw [decide_eq_true (p := 600 < x.n) (by omega), decide_eq_true (p := 1 < x.k) (by omega)]; simp))
                go_wp2_with fail
                first
                | exact QF.out HF.out _ HK.out
                | (go_ret; exact ⟨QF.out HF.out _ HK.out, trivial⟩)
              · have HT := Lib.hid (show fewJo x = true by unfold fewJo; rw [decide_eq_true (p := x.n ≤ 8200) (by omega), decide_eq_true (p := x.k ≤ 20) (by omega), decide_eq_false (p := 1 < x.k) (by omega)]; simp)
                go_wp2_with fail
                go_roundw
                case rel =>
                  refine ⟨k + 1, by omega, by go_num, fun j y hj hy => ?_, HK.out⟩
                  by_cases hjk : j = k
                  · subst hjk; have := HX.out.symm.trans hy; cases this; exact HT.out
                  · exact HALL.out j y (by omega) hy
                case measure => simp [intOf]; omega
            · have HT := Lib.hid (show fewJo x = true by unfold fewJo; rw [decide_eq_true (p := x.n ≤ 8200) (by omega), decide_eq_true (p := x.k ≤ 20) (by omega), decide_eq_false (p := 600 < x.n) (by omega)]; simp)
              go_wp2_with fail
              go_roundw
              case rel =>
                refine ⟨k + 1, by omega, by go_num, fun j y hj hy => ?_, HK.out⟩
                by_cases hjk : j = k
                · subst hjk; have := HX.out.symm.trans hy; cases this; exact HT.out
                · exact HALL.out j y (by omega) hy
              case measure => simp [intOf]; omega
      · obtain rfl : k = l.length := by omega
        have f2 := decide_eq_false (show ¬ ((l.length : Nat) : Int) < l.length by omega)
        have f3 := decide_eq_false (show ¬ l.length < l.length by omega)
        have HT := Lib.hid (HG.out HALL.out)
        clear HALL
        go_wp2_with fail
        first
        | exact QT.out HT.out _ HK.out
        | (go_ret; exact ⟨QT.out HT.out _ HK.out, trivial⟩)
/-- a call of the specification -/
def rdoE (sz : Nat) (L : List Pg) (o : Jo) : Int := if o.kind = 1 then rappE sz L o.text else if o.kind = 2 then rrepE sz o.texts else 0
def rdoI (sz : Nat) (L : List Pg) (o : Jo) : Int := if o.kind = 1 then rappI sz L o.text else 0
def rdoL (sz : Nat) (L : List Pg) (o : Jo) : List Pg := if o.kind = 1 then rappL sz L o.text else if o.kind = 2 then rrepL sz L o.texts else L
theorem stream_rep (n : Nat) (x : Pg) : (streamS (List.replicate n x)).length = n * (x.length + 2) := by
  induction n with
  | zero => simp [streamS]
  | succ n ih =>
    rw [List.replicate_succ]
    show (recB x ++ streamS (List.replicate n x)).length = _
    rw [List.length_append, ih, Nat.succ_mul]
    show x.length + 2 + _ = _
    omega
theorem Jo.text_len (o : Jo) : o.text.length = o.n.toNat := List.length_replicate
theorem Jo.texts_len (o : Jo) : o.texts.length = o.k.toNat := List.length_replicate
theorem few_bounds {o : Jo} (h : fewJo o = true) : o.n ≤ 8200 ∧ o.k ≤ 20 ∧ o.text.length ≤ 8200 ∧ o.texts.length ≤ 20 ∧ (streamS o.texts).length ≤ 200000 := by
  unfold fewJo at h
  simp only [Bool.and_eq_true, decide_eq_true_eq] at h
  obtain ⟨⟨h1, h2⟩, _⟩ := h
  refine ⟨h1, h2, by rw [Jo.text_len]; omega, by rw [Jo.texts_len]; omega, ?_⟩
  unfold Jo.texts
  rw [stream_rep, Jo.text_len]
  exact Nat.le_trans (Nat.mul_le_mul (show o.k.toNat ≤ 20 by omega) (show o.n.toNat + 2 ≤ 8202 by omega)) (by decide)
theorem rdo_ok (o : Jo) (hf : fewJo o = true) (R sz : Nat) (L : List Pg) (hL : L.length ≤ 1000000) (hS : (streamS L).length ≤ 100000000) (hsz : sz ≤ 100000000) (w : World) {X : Nat → Prop} (hX : ∀ i, X i → i < w.heap.size) (s : RS w R sz L X) :
    Calls Try.prog 14 #[.pointer (some ⟨R, 0, none⟩), .agg (joC o)] w fun e w' => e = .returned (.tuple #[.int .i64 (rdoI sz L o), .int .i64 (rdoE sz L o)]) ∧ RS w' R sz (rdoL sz L o) X ∧ Kept (fun i => i = R) w w' := by
  obtain ⟨b1, b2, b3, b4, b5⟩ := few_bounds hf
  have HS := Lib.hid s
  have hlt := s.lt
  have TX : Hid (∀ wx, Calls Try.prog 23 #[.agg (joC o)] wx fun e w' => e = .returned (.string ⟨o.text.toArray⟩) ∧ Kept NoM wx w') := Lib.hid (fun wx => text5_ok o (by omega) wx)
  have TS : Hid (∀ wx, Calls Try.prog 38 #[.agg (joC o)] wx fun e w' => ∃ a cap O, e = .returned (.slice a o.k.toNat cap) ∧ OwnS w' O 9 1 EStr (.slice a o.k.toNat cap) o.texts ∧ NewO wx none O ∧ Kept NoM wx w') := Lib.hid (fun wx => texts5_ok o (by omega) (by omega) wx)
  have KW : Kept NoM w (w.alloc (.cells (joC o) 38)) := (Kept.refl NoM w).alloc _
  have KH := Lib.hid KW
  have hbj := blk_new w (.cells (joC o) 38)
  have RA : Hid (∀ wx, Kept NoM w wx → Calls Try.prog 39 #[.pointer (some ⟨R, 0, none⟩), .string ⟨o.text.toArray⟩] wx fun e w' => e = .returned (.tuple #[.int .i64 (rappI sz L o.text), .int .i64 (rappE sz L o.text)]) ∧ RS w' R sz (rappL sz L o.text) X ∧ Kept (fun i => i = R) wx w') := Lib.hid (fun wx k => rappend_ok o.text (by omega) R sz L hL hS hsz wx (fun i hi => Nat.lt_of_lt_of_le (hX i hi) k.size) (HS.out.kept0 k))
  have RR : Hid (∀ wx v, Kept NoM w wx → RdS wx NoM 1 EStr v o.texts → Calls Try.prog 40 #[.pointer (some ⟨R, 0, none⟩), v] wx fun e w' => e = .returned (.int .i64 (rrepE sz o.texts)) ∧ RS w' R sz (rrepL sz L o.texts) X ∧ Kept (fun i => i = R) wx w') := Lib.hid (fun wx v k hv => rreplace_ok v o.texts (by omega) (by omega) R sz L hsz wx (fun i hi => Nat.lt_of_lt_of_le (hX i hi) k.size) (HS.out.kept0 k) hv)
  have D1 : Hid (o.kind = 1 → rdoE sz L o = rappE sz L o.text ∧ rdoI sz L o = rappI sz L o.text ∧ rdoL sz L o = rappL sz L o.text) := Lib.hid (fun e => by unfold rdoE rdoI rdoL; rw [if_pos e, if_pos e, if_pos e]; exact ⟨rfl, rfl, rfl⟩)
  have D2 : Hid (o.kind = 2 → rdoE sz L o = rrepE sz o.texts ∧ rdoI sz L o = 0 ∧ rdoL sz L o = rrepL sz L o.texts) := Lib.hid (fun e => by
    have e1 : ¬ o.kind = 1 := by omega
    unfold rdoE rdoI rdoL; rw [if_neg e1, if_neg e1, if_neg e1, if_pos e, if_pos e]; exact ⟨rfl, rfl, rfl⟩)
  have D3 : Hid (¬ o.kind = 1 → ¬ o.kind = 2 → rdoE sz L o = 0 ∧ rdoI sz L o = 0 ∧ rdoL sz L o = L) := Lib.hid (fun e e2 => by unfold rdoE rdoI rdoL; rw [if_neg e, if_neg e, if_neg e, if_neg e2, if_neg e2]; exact ⟨rfl, rfl, rfl⟩)
  generalize o.texts = ts at *
  generalize o.text = tx at *
  generalize rdoE sz L o = dE at *
  generalize rdoI sz L o = dI at *
  generalize rdoL sz L o = dL at *
  obtain ⟨kd, n, kk, c⟩ := o
  unfold joC at *
  simp only at TX TS D1 D2 D3 hbj KH b1 b2 ⊢
  clear KW s hf b3 b4 b5
  have y0 := cell_blk hbj 0 _ rfl
  have y1 := cell_blk hbj 1 _ rfl
  have y2 := cell_blk hbj 2 _ rfl
  have y3 := cell_blk hbj 3 _ rfl
  clear hbj
  by_cases h1 : kd = 1
  · obtain ⟨r1, r2, r3⟩ := D1.out h1
    rw [r1, r2, r3]
    clear r1 r2 r3 D1 D2 D3 TS RR
    subst h1
    go_enter Try.func14, Try.ntmps14
    go_wp2_with (first | (go_at_call 23; refine (TX.out _).mono ?_; rintro e w1 ⟨rfl, q1⟩; have Q1 := Lib.hid (KH.out.trans q1); clear q1) | (go_at_call 39; refine (RA.out _ Q1.out).mono ?_; rintro e w2 ⟨rfl, q2, q3⟩; have Q2 := Lib.hid (And.intro q2 q3); clear q2 q3))
    go_ret2
    exact ⟨rfl, Q2.out.1, Q1.out.of_no.trans Q2.out.2⟩
  · by_cases h2 : kd = 2
    · obtain ⟨r1, r2, r3⟩ := D2.out h2
      rw [r1, r2, r3]
      clear r1 r2 r3 D1 D2 D3 TX RA
      subst h2
      go_enter Try.func14, Try.ntmps14
      go_wp2_with (first | (go_at_call 38; refine (TS.out _).mono ?_; rintro e w1 ⟨a, cap, O, rfl, o1, n1, q1⟩; have Q1 := Lib.hid (KH.out.trans q1); have O1 := Lib.hid (o1.rd (M := NoM) (fun _ _ x => x)); clear q1 o1 n1) | (go_at_call 40; refine (RR.out _ _ Q1.out O1.out).mono ?_; rintro e w2 ⟨rfl, q2, q3⟩; have Q2 := Lib.hid (And.intro q2 q3); clear q2 q3))
      go_ret2
      exact ⟨rfl, Q2.out.1, Q1.out.of_no.trans Q2.out.2⟩
    · obtain ⟨r1, r2, r3⟩ := D3.out h1 h2
      rw [r1, r2, r3]
      clear r1 r2 r3 D1 D2 D3 TX RA TS RR
      go_enter Try.func14, Try.ntmps14
      go_wp2_with fail
      go_ret2
      exact ⟨rfl, HS.out.kept0 KH.out, KH.out.of_no⟩
end Go.Proofs.Ytjcmnobfdidnkaa
