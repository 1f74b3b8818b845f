/- Walks of the laws' functions: a call. -/
import Derived.Test.YtjcmnobfdidnkaaKS4
import Derived.Test.YtjcmnobfdidnkaaKD0
set_option linter.unusedVariables false
set_option linter.unusedSimpArgs false
set_option linter.unusedSectionVars false
namespace Go.Proofs.Ytjcmnobfdidnkaa
open Go.RowKit
set_option maxHeartbeats 4000000
set_option maxRecDepth 4000
theorem HdFit.ok {d : Dk} {h : Hd} {recs : List Pg} {K : Nat} (f : HdFit d h recs K) (hn : d.n ≤ 4096) (hK : K ≤ 800000000000) : h.Ok := by
  have h1 := f.lens hn
  exact ⟨by have := f.seq; omega, by have := f.bank; omega, by omega, by rw [f.count]; omega, h1.2.2.2.2⟩
/-- heads that are on the disk can be read -/
def HdsOk (d : Dk) : Prop := ∀ i, i < 2 → zeroP (d.now i) = false → badP (d.now i) = false → (rdHd (d.now i)).Ok
/-- a journal in memory -/
def JM (w : World) (J D G B : Nat) (j : Jn) : Prop := JS w J D G B j.d j.h j.recs j.cl
theorem append_ok {J D G B : Nat} (j : Jn) (x : Pg) {K : Nat} (hK : K ≤ 700000000000) (f : HdFit j.d j.h j.recs K) (w : World) (js : JM w J D G B j) :
    Calls Try.prog 24 #[.pointer (some ⟨J, 0, none⟩), .string ⟨x.toArray⟩] w fun e w' => e = .returned (.tuple #[.int .i64 (j.appI x), .int .i64 (j.appE x)]) ∧ JM w' J D G B (j.app x) ∧ Kept (InJ J D G B) w w' := by
  obtain ⟨d, h, recs, cl⟩ := j
  have hn := JS.p js
  have hb := f.lens hn.n_hi.2
  have h4 := f.n4
  simp only at f hb h4
  unfold JM at *
  simp only at js
  cases cl with
  | true =>
    refine (append_closed x w js rfl).mono ?_
    rintro e w' ⟨rfl, k⟩
    have e1 : (Jn.mk d h recs true).appE x = 13 := rfl
    have e2 : (Jn.mk d h recs true).app x = Jn.mk d h recs true := rfl
    refine ⟨by unfold Jn.appI; rw [e1]; rfl, by rw [e2]; exact js.kept0 k, k.of_no⟩
  | false =>
    by_cases h1 : 8000 < x.length
    · refine (append_long x w js rfl h1).mono ?_
      rintro e w' ⟨rfl, k⟩
      have e1 : (Jn.mk d h recs false).appE x = 2 := by unfold Jn.appE; simp [h1]
      have e2 : (Jn.mk d h recs false).app x = Jn.mk d h recs false := by unfold Jn.app; simp [h1]
      refine ⟨by unfold Jn.appI; rw [e1]; rfl, by rw [e2]; exact js.kept0 k, k.of_no⟩
    · by_cases h2 : d.jcap < h.size + (x.length + 2)
      · refine (append_full x (by omega) (by omega) w js rfl (by omega) h2).mono ?_
        rintro e w' ⟨rfl, k⟩
        have e1 : (Jn.mk d h recs false).appE x = 12 := by unfold Jn.appE; simp [h1, h2]
        have e2 : (Jn.mk d h recs false).app x = Jn.mk d h recs false := by unfold Jn.app; simp [h1, h2]
        refine ⟨by unfold Jn.appI; rw [e1]; rfl, by rw [e2]; exact js.kept0 k, k.of_no⟩
      · have fa := f.app x (by omega) (by omega) (d' := d) rfl
        refine (append_go x (by omega) (by omega) (by omega) (fa.ok hn.n_hi.2 (by omega)) w js rfl (by omega) (by omega)).mono ?_
        rintro e w' ⟨rfl, k1, k2, _⟩
        have e1 : (Jn.mk d h recs false).appE x = if jkeepF d h (appHd h x) h.size (recB x) then 13 else 0 := by unfold Jn.appE; simp [h1, h2]
        have e2 : (Jn.mk d h recs false).app x = (Jn.mk d h recs false).keep (appHd h x) h.size (recB x) (recs ++ [x]) := by unfold Jn.app; simp [h1, h2]
        refine ⟨?_, by rw [e2]; exact k1, k2⟩
        unfold Jn.appI
        rw [e1]
        cases jkeepF d h (appHd h x) h.size (recB x) <;> rfl
theorem replace_ok {J D G B : Nat} (j : Jn) (v : Value) (l : List Pg) (hll : l.length ≤ 1000000) (hsl : (streamS l).length ≤ 100000000) {K : Nat} (hK : K ≤ 700000000000) (f : HdFit j.d j.h j.recs K) (w : World) (js : JM w J D G B j) (hv : RdS w NoM 1 EStr v l) :
    Calls Try.prog 29 #[.pointer (some ⟨J, 0, none⟩), v] w fun e w' => e = .returned (.int .i64 (j.repE l)) ∧ JM w' J D G B (j.rep l) ∧ Kept (InJ J D G B) w w' := by
  obtain ⟨d, h, recs, cl⟩ := j
  have hn := JS.p js
  have hb := f.lens hn.n_hi.2
  have h4 := f.n4
  have h5 := f.bank
  have h6 := f.seq
  simp only at f hb h4 h5 h6
  unfold JM at *
  simp only at js
  cases cl with
  | true =>
    refine (replace_closed v w js rfl).mono ?_
    rintro e w' ⟨rfl, k⟩
    exact ⟨rfl, js.kept0 k, k.of_no⟩
  | false => exact replace_open v l (by omega) h5 (by omega) hll hsl w js rfl hv
/-- an Append that succeeds: the records lie in memory that is new -/
theorem append_fresh {J D G B : Nat} (j : Jn) (x : Pg) {K : Nat} (hK : K ≤ 700000000000) (f : HdFit j.d j.h j.recs K) (hE : j.appE x = 0) (w : World) (js : JM w J D G B j) :
    Calls Try.prog 24 #[.pointer (some ⟨J, 0, none⟩), .string ⟨x.toArray⟩] w fun e w' => e = .returned (.tuple #[.int .i64 j.recs.length, .int .i64 0]) ∧ JM w' J D G B (j.app x) ∧ Kept (InJ J D G B) w w' ∧ ∃ a8 n8 cap8, w'.cell? ⟨J, 6, none⟩ = some (.slice a8 n8 cap8) ∧ ∀ b off, a8 = some ⟨b, off, none⟩ → w.heap.size ≤ b := by
  obtain ⟨d, h, recs, cl⟩ := j
  have hn := JS.p js
  have hb := f.lens hn.n_hi.2
  have h4 := f.n4
  simp only at f hb h4
  unfold JM at *
  simp only at js
  cases cl with
  | true => cases hE
  | false =>
    have h1 : ¬ 8000 < x.length := fun h1 => by
      have e1 : (Jn.mk d h recs false).appE x = 2 := by unfold Jn.appE; simp [h1]
      rw [e1] at hE; cases hE
    have h2 : ¬ d.jcap < h.size + (x.length + 2) := fun h2 => by
      have e1 : (Jn.mk d h recs false).appE x = 12 := by unfold Jn.appE; simp [h1, h2]
      rw [e1] at hE; cases hE
    have e1 : (Jn.mk d h recs false).appE x = if jkeepF d h (appHd h x) h.size (recB x) then 13 else 0 := by unfold Jn.appE; simp [h1, h2]
    have e2 : (Jn.mk d h recs false).app x = (Jn.mk d h recs false).keep (appHd h x) h.size (recB x) (recs ++ [x]) := by unfold Jn.app; simp [h1, h2]
    rw [e1] at hE
    have hF : jkeepF d h (appHd h x) h.size (recB x) = false := by
      cases hF : jkeepF d h (appHd h x) h.size (recB x) with
      | false => rfl
      | true => rw [hF] at hE; cases hE
    have fa := f.app x (by omega) (by omega) (d' := d) rfl
    refine (append_go x (by omega) (by omega) (by omega) (fa.ok hn.n_hi.2 (by omega)) w js rfl (by omega) (by omega)).mono ?_
    rintro e w' ⟨rfl, k1, k2, k3⟩
    obtain ⟨a8, cap8, k4, k5⟩ := k3 hF
    refine ⟨by rw [hF]; rfl, by rw [e2]; exact k1, k2, a8, _, cap8, k4, k5⟩
/-- a call of a script -/
def Jn.actE (j : Jn) (o : Jo) : Int := if o.kind = 1 then j.appE o.text else if o.kind = 2 then j.repE o.texts else if o.kind = 3 then jopenE j.d else 0
def Jn.actI (j : Jn) (o : Jo) : Int := if o.kind = 1 then j.appI o.text else 0
def Jn.act (j : Jn) (o : Jo) : Jn := if o.kind = 1 then j.app o.text else if o.kind = 2 then j.rep o.texts else if o.kind = 3 then j.opn else j
theorem do_ok {J D G B : Nat} (j : Jn) (o : Jo) (hf : fewJo o = true) {K : Nat} (hK : K ≤ 700000000000) (f : HdFit j.d j.h j.recs K) (h3 : o.kind = 3 → HdsOk j.d ∧ j.d.off = false) (w : World) (js : JM w J D G B j) :
    Calls Try.prog 13 #[.pointer (some ⟨D, 0, none⟩), .pointer (some ⟨J, 0, none⟩), .agg (joC o)] w fun e w' => ∃ J', e = .returned (.tuple #[.pointer (some ⟨J', 0, none⟩), .int .i64 (j.actI o), .int .i64 (j.actE o)]) ∧ JM w' J' D G B (j.act o) ∧ (J' = J ∨ o.kind = 3 ∧ w.heap.size ≤ J') ∧ Kept (InJ J D G B) w w' := by
  obtain ⟨b1, b2, b3, b4, b5⟩ := few_bounds hf
  have hpn := (JS.p js).n_hi.2
  have HS : Hid (∀ w', Kept NoM w w' → JM w' J D G B j) := Lib.hid (fun w' k => JS.kept0 js k)
  have HP := Lib.hid (JS.p js)
  have TX : Hid (∀ wx, Calls Try.prog 23 #[.agg (joC o)] wx fun e w' => e = .returned (.string ⟨o.text.toArray⟩) ∧ Kept NoM wx w') := Lib.hid (fun wx => text5_ok o (by omega) wx)
  have TS : Hid (∀ wx, Calls Try.prog 38 #[.agg (joC o)] wx fun e w' => ∃ a cap O, e = .returned (.slice a o.k.toNat cap) ∧ OwnS w' O 9 1 EStr (.slice a o.k.toNat cap) o.texts ∧ NewO wx none O ∧ Kept NoM wx w') := Lib.hid (fun wx => texts5_ok o (by omega) (by omega) wx)
  have KH : Hid (Kept NoM w (w.alloc (.cells (joC o) 38))) := Lib.hid ((Kept.refl NoM w).alloc _)
  have hbj := blk_new w (.cells (joC o) 38)
  have RA : Hid (∀ wx, Kept NoM w wx → Calls Try.prog 24 #[.pointer (some ⟨J, 0, none⟩), .string ⟨o.text.toArray⟩] wx fun e w' => e = .returned (.tuple #[.int .i64 (j.appI o.text), .int .i64 (j.appE o.text)]) ∧ JM w' J D G B (j.app o.text) ∧ Kept (InJ J D G B) wx w') := Lib.hid (fun wx k => append_ok j o.text hK f wx (HS.out wx k))
  have RR : Hid (∀ wx v, Kept NoM w wx → RdS wx NoM 1 EStr v o.texts → Calls Try.prog 29 #[.pointer (some ⟨J, 0, none⟩), v] wx fun e w' => e = .returned (.int .i64 (j.repE o.texts)) ∧ JM w' J D G B (j.rep o.texts) ∧ Kept (InJ J D G B) wx w') := Lib.hid (fun wx v k hv => replace_ok j v o.texts (by omega) (by omega) hK f wx (HS.out wx k) hv)
  have OP : Hid (o.kind = 3 → ∀ wx, Kept NoM w wx → Calls Try.prog 11 #[.pointer (some ⟨D, 0, none⟩)] wx fun e w' => (jopenE j.d ≠ 0 ∧ e = .returned (.tuple #[.pointer none, .int .i64 (jopenE j.d)]) ∧ PD w' D G B (jopenD j.d) ∧ Kept (InD D G B) wx w') ∨
      (jopenE j.d = 0 ∧ ∃ J' l, e = .returned (.tuple #[.pointer (some ⟨J', 0, none⟩), .int .i64 0]) ∧ jload j.d (jhead j.d) = some l ∧ JS w' J' D G B (jopenD j.d) (jhead j.d) l false ∧ wx.heap.size ≤ J' ∧ Kept (InD D G B) wx w')) := Lib.hid (fun e wx k => open_ok f.n4 (h3 e).1 (h3 e).2 wx (JS.p (HS.out wx k)))
  have D1 : Hid (o.kind = 1 → j.actE o = j.appE o.text ∧ j.actI o = j.appI o.text ∧ j.act o = j.app o.text) := Lib.hid (fun e => by unfold Jn.actE Jn.actI Jn.act; rw [if_pos e, if_pos e, if_pos e]; exact ⟨rfl, rfl, rfl⟩)
  have D2 : Hid (o.kind = 2 → j.actE o = j.repE o.texts ∧ j.actI o = 0 ∧ j.act o = j.rep o.texts) := Lib.hid (fun e => by
    have e1 : ¬ o.kind = 1 := by omega
    unfold Jn.actE Jn.actI Jn.act; rw [if_neg e1, if_neg e1, if_neg e1, if_pos e, if_pos e]; exact ⟨rfl, rfl, rfl⟩)
  have D3 : Hid (o.kind = 3 → j.actE o = jopenE j.d ∧ j.actI o = 0 ∧ j.act o = j.opn) := Lib.hid (fun e => by
    have e1 : ¬ o.kind = 1 := by omega
    have e2 : ¬ o.kind = 2 := by omega
    unfold Jn.actE Jn.actI Jn.act; rw [if_neg e1, if_neg e1, if_neg e1, if_neg e2, if_neg e2, if_pos e, if_pos e]; exact ⟨rfl, rfl, rfl⟩)
  have D4 : Hid (¬ o.kind = 1 → ¬ o.kind = 2 → ¬ o.kind = 3 → j.actE o = 0 ∧ j.actI o = 0 ∧ j.act o = j) := Lib.hid (fun e1 e2 e => by
    unfold Jn.actE Jn.actI Jn.act; rw [if_neg e1, if_neg e1, if_neg e1, if_neg e2, if_neg e2, if_neg e, if_neg e]; exact ⟨rfl, rfl, rfl⟩)
  have O1 : Hid (jopenE j.d = 0 → ∀ l, jload j.d (jhead j.d) = some l → j.opn = ⟨jopenD j.d, jhead j.d, l, false⟩) := Lib.hid (fun e l hl => by unfold Jn.opn; rw [if_pos e, hl]; rfl)
  have O2 : Hid (jopenE j.d ≠ 0 → j.opn = { j with d := jopenD j.d }) := Lib.hid (fun e => by unfold Jn.opn; rw [if_neg e])
  have HJD : Hid (∀ wx w', Kept NoM w wx → PD w' D G B (jopenD j.d) → Kept (InD D G B) wx w' → JM w' J D G B { j with d := jopenD j.d }) := Lib.hid (fun wx w' k p k2 => JS.disk (HS.out wx k) p k2)
  clear js f h3
  generalize o.texts = ts at *
  generalize o.text = tx at *
  generalize hactE : j.actE o = dE at *
  generalize j.actI o = dI at *
  generalize j.act o = dL at *
  clear hactE
  obtain ⟨kd, n, kk, c⟩ := o
  unfold joC at *
  simp only at TX TS D1 D2 D3 D4 hbj KH OP b1 b2 ⊢
  clear hf b3 b4 b5
  have y0 := cell_blk hbj 0 _ rfl
  have y1 := cell_blk hbj 1 _ rfl
  have y2 := cell_blk hbj 2 _ rfl
  have y3 := cell_blk hbj 3 _ rfl
  clear hbj
  have HND : Hid (∀ i, InD D G B i → InJ J D G B i) := Lib.hid (fun i hi => .inr hi)
  by_cases h1 : kd = 1
  · obtain ⟨r1, r2, r3⟩ := D1.out h1
    rw [r1, r2, r3]
    clear r1 r2 r3 D1 D2 D3 D4 TS RR OP O1 O2 HJD
    subst h1
    go_enter Try.func13, Try.ntmps13
    go_wp2_with (first | (go_at_call 23; refine (TX.out _).mono ?_; rintro e w1 ⟨rfl, q1⟩; have Q1 := Lib.hid (KH.out.trans q1); clear q1) | (go_at_call 24; refine (RA.out _ Q1.out).mono ?_; rintro e w2 ⟨rfl, q2, q3⟩; have Q2 := Lib.hid (And.intro q2 q3); clear q2 q3))
    go_ret3
    exact ⟨J, rfl, Q2.out.1, .inl rfl, Q1.out.of_no.trans Q2.out.2⟩
  · by_cases h2 : kd = 2
    · obtain ⟨r1, r2, r3⟩ := D2.out h2
      rw [r1, r2, r3]
      clear r1 r2 r3 D1 D2 D3 D4 TX RA OP O1 O2 HJD
      subst h2
      go_enter Try.func13, Try.ntmps13
      go_wp2_with (first | (go_at_call 38; refine (TS.out _).mono ?_; rintro e w1 ⟨a, cap, O, rfl, o1, n1, q1⟩; have Q1 := Lib.hid (KH.out.trans q1); have O1 := Lib.hid (o1.rd (M := NoM) (fun _ _ x => x)); clear q1 o1 n1) | (go_at_call 29; refine (RR.out _ _ Q1.out O1.out).mono ?_; rintro e w2 ⟨rfl, q2, q3⟩; have Q2 := Lib.hid (And.intro q2 q3); clear q2 q3))
      go_ret3
      exact ⟨J, rfl, Q2.out.1, .inl rfl, Q1.out.of_no.trans Q2.out.2⟩
    · by_cases h3 : kd = 3
      · obtain ⟨r1, r2, r3⟩ := D3.out h3
        rw [r1, r2, r3]
        have OP1 := Lib.hid (OP.out h3 _ KH.out)
        clear r1 r2 r3 D1 D2 D3 D4 TX RA TS RR OP
        subst h3
        by_cases hE : jopenE j.d = 0
        · have OP2 := Lib.hid (OP1.out.mono (R' := fun e w' => ∃ J' l, e = .returned (.tuple #[.pointer (some ⟨J', 0, none⟩), .int .i64 0]) ∧ jload j.d (jhead j.d) = some l ∧ JS w' J' D G B (jopenD j.d) (jhead j.d) l false ∧ (w.alloc (.cells #[.int .i64 3, .int .i64 n, .int .i64 kk, .int .u8 c.toNat] 38)).heap.size ≤ J' ∧ Kept (InD D G B) (w.alloc (.cells #[.int .i64 3, .int .i64 n, .int .i64 kk, .int .u8 c.toNat] 38)) w') (fun e w' h => by rcases h with ⟨q, _⟩ | ⟨_, q⟩; exact absurd hE q; exact q))
          have O1 := Lib.hid (O1.out hE)
          rw [hE]
          clear OP1 hE O2 HJD
          go_enter Try.func13, Try.ntmps13
          go_wp2_with (go_at_call 11; refine OP2.out.mono ?_; rintro e w2 ⟨J', l, rfl, q1, q2, q3, q4⟩; have Q2 := Lib.hid (And.intro q1 (And.intro q2 (And.intro q3 q4))); clear q1 q2 q3 q4)
          go_ret3
          refine ⟨J', rfl, by rw [O1.out l Q2.out.1]; exact Q2.out.2.1, .inr ⟨trivial, Nat.le_trans KH.out.size Q2.out.2.2.1⟩, KH.out.of_no.trans (Q2.out.2.2.2.mono (fun i _ h => .inr h))⟩
        · have OP2 := Lib.hid (OP1.out.mono (R' := fun e w' => e = .returned (.tuple #[.pointer none, .int .i64 (jopenE j.d)]) ∧ PD w' D G B (jopenD j.d) ∧ Kept (InD D G B) (w.alloc (.cells #[.int .i64 3, .int .i64 n, .int .i64 kk, .int .u8 c.toNat] 38)) w') (fun e w' h => by rcases h with ⟨_, q⟩ | ⟨q, _⟩; exact q; exact absurd q hE))
          have O2 := Lib.hid (O2.out hE)
          clear OP1 O1
          go_enter Try.func13, Try.ntmps13
          go_wp2_with (go_at_call 11; refine OP2.out.mono ?_; rintro e w2 ⟨rfl, q1, q2⟩; have Q2 := Lib.hid (And.intro q1 q2); clear q1 q2)
          go_ret3
          refine ⟨J, rfl, by rw [O2.out]; exact HJD.out _ _ KH.out Q2.out.1 Q2.out.2, .inl rfl, KH.out.of_no.trans (Q2.out.2.mono (fun i _ h => .inr h))⟩
      · obtain ⟨r1, r2, r3⟩ := D4.out h1 h2 h3
        rw [r1, r2, r3]
        clear r1 r2 r3 D1 D2 D3 D4 TX RA TS RR OP O1 O2 HJD
        go_enter Try.func13, Try.ntmps13
        go_wp2_with fail
        go_ret3
        exact ⟨J, rfl, HS.out _ KH.out, .inl rfl, KH.out.of_no⟩
end Go.Proofs.Ytjcmnobfdidnkaa
