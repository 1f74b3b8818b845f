/- What the laws' walks share: a journal that works, with a list of records. -/
import Derived.Test.YtjcmnobfdidnkaaKL2
set_option linter.unusedVariables false
set_option linter.unusedSimpArgs false
set_option linter.unusedSectionVars false
namespace Go.Proofs.Ytjcmnobfdidnkaa
open Go.RowKit
set_option maxHeartbeats 2000000
set_option maxRecDepth 4000
def capN (n : Nat) : Nat := (n - 2) / 2 * 128
/-- a journal in block J that works, and holds the records L -/
def GJ (w : World) (J D G B : Nat) (L : List Pg) (n K : Nat) : Prop := ∃ j, JM w J D G B j ∧ Going j L n K
section
variable {w w' : World} {J D G B n K : Nat} {L : List Pg}
theorem GJ.lens (g : GJ w J D G B L n K) : L.length ≤ 300000 ∧ (streamS L).length ≤ 300000 ∧ 4 ≤ n ∧ n ≤ 4096 ∧ capN n ≤ 300000 ∧ (streamS L).length ≤ capN n := by
  obtain ⟨j, h1, h2⟩ := g
  obtain ⟨a1, a2, a3, a4, a5⟩ := h2.lens
  refine ⟨a1, a2, a3, a4, a5, ?_⟩
  have h3 := h2.norm.both.f.cap
  have h4 := h2.norm.both.f.size
  rw [h2.norm.recs] at h4
  have : j.d.jcap = capN n := by unfold Dk.jcap Dk.jp capN; rw [h2.n]
  omega
theorem GJ.kept0 (g : GJ w J D G B L n K) (k : Kept NoM w w') : GJ w' J D G B L n K := by
  obtain ⟨j, h1, h2⟩ := g
  exact ⟨j, JS.kept0 h1 k, h2⟩
theorem GJ.lt (g : GJ w J D G B L n K) : ∀ i, InJ J D G B i → i < w.heap.size := by
  obtain ⟨j, h1, h2⟩ := g
  exact JS.lt h1
theorem GJ.more (g : GJ w J D G B L n K) {K' : Nat} (h : K ≤ K') : GJ w J D G B L n K' := by
  obtain ⟨j, h1, h2⟩ := g
  exact ⟨j, h1, h2.norm.more h, h2.n, h2.trip⟩
theorem GJ.beside {R sz : Nat} {L' : List Pg} {X : Nat → Prop} (g : GJ w J D G B L n K) (r : RS w R sz L' X) (hR : ¬ InJ J D G B R) (k : Kept (fun i => i = R) w w') : GJ w' J D G B L n K := by
  obtain ⟨j, h1, h2⟩ := g
  exact ⟨j, h1.beside r hR k, h2⟩
theorem gapp (g : GJ w J D G B L n K) (hK : K ≤ 700000000000) (x : Pg) : Calls Try.prog 24 #[.pointer (some ⟨J, 0, none⟩), .string ⟨x.toArray⟩] w fun e w' => e = .returned (.tuple #[.int .i64 (rappI (capN n) L x), .int .i64 (rappE (capN n) L x)]) ∧ GJ w' J D G B (rappL (capN n) L x) n (K + 1) ∧ Kept (InJ J D G B) w w' := by
  obtain ⟨j, h1, h2⟩ := g
  refine (append_ok j x hK h2.norm.both.f w h1).mono ?_
  rintro e w' ⟨rfl, q1, q2⟩
  have hc : j.d.jcap = capN n := by unfold Dk.jcap Dk.jp capN; rw [h2.n]
  rcases h2.norm.app hK x with ⟨t1, t2, t3, t4, t5⟩ | ⟨_, _, _, t⟩
  · rw [t1, t2, hc]
    exact ⟨rfl, ⟨_, q1, by rw [← hc]; exact t3, t4.trans h2.n, t5 h2.trip⟩, q2⟩
  · exact absurd h2.trip t.trip
theorem grep_ (g : GJ w J D G B L n K) (hK : K ≤ 700000000000) {v : Value} {l : List Pg} (hll : l.length ≤ 1000000) (hsl : (streamS l).length ≤ 100000000) (hv : RdS w NoM 1 EStr v l) : Calls Try.prog 29 #[.pointer (some ⟨J, 0, none⟩), v] w fun e w' => e = .returned (.int .i64 (rrepE (capN n) l)) ∧ GJ w' J D G B (rrepL (capN n) L l) n (K + 1) ∧ Kept (InJ J D G B) w w' := by
  obtain ⟨j, h1, h2⟩ := g
  refine (replace_ok j v l hll hsl hK h2.norm.both.f w h1 hv).mono ?_
  rintro e w' ⟨rfl, q1, q2⟩
  have hc : j.d.jcap = capN n := by unfold Dk.jcap Dk.jp capN; rw [h2.n]
  rcases h2.norm.rep hK l with ⟨t1, t3, t4, t5⟩ | ⟨_, _, _, t⟩
  · rw [t1, hc]
    exact ⟨rfl, ⟨_, q1, by rw [← hc]; exact t3, t4.trans h2.n, t5 h2.trip⟩, q2⟩
  · exact absurd h2.trip t.trip
theorem gdo (g : GJ w J D G B L n K) (hK : K ≤ 700000000000) (o : Jo) (hf : fewJo o = true) : Calls Try.prog 13 #[.pointer (some ⟨D, 0, none⟩), .pointer (some ⟨J, 0, none⟩), .agg (joC o)] w fun e w' => ∃ J', e = .returned (.tuple #[.pointer (some ⟨J', 0, none⟩), .int .i64 (rdoI (capN n) L o), .int .i64 (rdoE (capN n) L o)]) ∧ GJ w' J' D G B (rdoL (capN n) L o) n (K + 1) ∧ (J' = J ∨ w.heap.size ≤ J') ∧ Kept (InJ J D G B) w w' := by
  obtain ⟨j, h1, h2⟩ := g
  refine (do_ok j o hf hK h2.norm.both.f (fun _ => h2.open_) w h1).mono ?_
  rintro e w' ⟨J', rfl, q1, q2, q3⟩
  obtain ⟨t1, t2, t3⟩ := h2.act hK o
  rw [t1, t2]
  exact ⟨J', rfl, ⟨_, q1, t3⟩, q2.imp id And.right, q3⟩
/-- a disk from which the records L are read -/
def FD (w : World) (D G B : Nat) (d : Dk) (L : List Pg) (K : Nat) : Prop := PD w D G B d ∧ ∃ h, h.Fits ∧ Fit d h L K
theorem GJ.fd (g : GJ w J D G B L n K) (hK : K ≤ 700000000000) : ∃ d, FD w D G B d L K ∧ d.n = n ∧ d.trip = -1 := by
  obtain ⟨j, h1, h2⟩ := g
  refine ⟨j.d, ⟨JS.p h1, j.h, h2.norm.fits hK, ?_⟩, h2.n, h2.trip⟩
  have := h2.norm.both.fit
  rw [h2.norm.recs] at this
  exact this
theorem FD.opn {d : Dk} (f : FD w D G B d L K) (hn : d.n = n) (h4 : n ≤ 4096) (ht : d.trip = -1) :
    Calls Try.prog 25 #[.pointer (some ⟨D, 0, none⟩)] w fun e w' => ∃ J, e = .returned (.tuple #[.pointer (some ⟨J, 0, none⟩), .bool true]) ∧ GJ w' J D G B L n K ∧ w.heap.size ≤ J ∧ Kept (InD D G B) w w' := by
  obtain ⟨p, h, hf, s⟩ := f
  refine (lopen_ok s hf ht w p).mono ?_
  rintro e w' ⟨J, rfl, q1, q2, q3⟩
  obtain ⟨o1, o2, o3⟩ := s.open_ hf
  rcases o3 with ⟨r1, r2, r3, r4⟩ | ⟨_, _, _, _, r, _⟩
  · exact ⟨J, rfl, ⟨_, q1, ⟨r2, by show (jopenD d).n ≤ 4096; rw [r3, hn]; exact h4, rfl, rfl⟩, r3.trans hn, r4 ht⟩, q2, q3⟩
  · exact absurd ht r
theorem FD.opn2 {d : Dk} (f : FD w D G B d L K) (hn : d.n = n) (h4 : n ≤ 4096) (ht : d.trip = -1) :
    Calls Try.prog 11 #[.pointer (some ⟨D, 0, none⟩)] w fun e w' => ∃ J, e = .returned (.tuple #[.pointer (some ⟨J, 0, none⟩), .int .i64 0]) ∧ GJ w' J D G B L n K ∧ w.heap.size ≤ J ∧ Kept (InD D G B) w w' := by
  obtain ⟨p, h, hf, s⟩ := f
  obtain ⟨o1, o2, o3⟩ := s.open_ hf
  refine (open_ok s.f.n4 s.hds s.c.off w p).mono ?_
  rcases o3 with ⟨r1, r2, r3, r4⟩ | ⟨_, _, _, _, r, _⟩
  · rintro e w' (⟨q, _⟩ | ⟨_, J, l, q1, q2, q3, q4, q5⟩)
    · exact absurd r1 q
    · rw [o1] at q2 q3
      rw [o2] at q2
      cases q2
      exact ⟨J, q1, ⟨⟨jopenD d, h, _, false⟩, q3, ⟨r2, by show (jopenD d).n ≤ 4096; rw [r3, hn]; exact h4, rfl, rfl⟩, r3.trans hn, r4 ht⟩, q4, q5⟩
  · exact absurd ht r
theorem glen (g : GJ w J D G B L n K) : Calls Try.prog 17 #[.pointer (some ⟨J, 0, none⟩)] w fun e w' => e = .returned (.int .i64 L.length) ∧ w = w' := by
  obtain ⟨j, h1, h2⟩ := g
  have := jlen_ok w h1
  rw [h2.norm.recs] at this
  exact this
theorem gused (g : GJ w J D G B L n K) : Calls Try.prog 18 #[.pointer (some ⟨J, 0, none⟩)] w fun e w' => e = .returned (.int .i64 (streamS L).length) ∧ w = w' := by
  obtain ⟨j, h1, h2⟩ := g
  have := used_ok w h1
  rw [h2.norm.both.f.size, h2.norm.recs] at this
  exact this
theorem groom (g : GJ w J D G B L n K) : Calls Try.prog 20 #[.pointer (some ⟨J, 0, none⟩)] w fun e w' => e = .returned (.int .i64 ((capN n : Int) - (streamS L).length)) ∧ ∃ n, w' = w.drewN n := by
  have hl := g.lens
  obtain ⟨j, h1, h2⟩ := g
  have hc : j.d.jcap = capN n := by unfold Dk.jcap Dk.jp capN; rw [h2.n]
  have hs := h2.norm.both.f.size
  rw [h2.norm.recs] at hs
  have h4 := h2.norm.both.f.n4
  have := room_ok w h1 (by omega) (by omega)
  rw [hc, hs] at this
  exact this
theorem grecs (g : GJ w J D G B L n K) : Calls Try.prog 16 #[.pointer (some ⟨J, 0, none⟩)] w fun e w' => ∃ a cap O, e = .returned (.slice a L.length cap) ∧ OwnS w' O 9 1 EStr (.slice a L.length cap) L ∧ NewO w none O ∧ Kept NoM w w' := by
  have hl := g.lens
  obtain ⟨j, h1, h2⟩ := g
  have h3 := h2.norm.recs
  have := records_ok w h1 (by rw [h3]; omega)
  rw [h3] at this
  exact this
theorem grec_ok (g : GJ w J D G B L n K) {k : Nat} {x : Pg} (hk : L[k]? = some x) : Calls Try.prog 21 #[.pointer (some ⟨J, 0, none⟩), .int .i64 k] w fun e w' => e = .returned (.tuple #[strV x, .bool true]) ∧ w = w' := by
  obtain ⟨j, h1, h2⟩ := g
  exact record_ok w h1 k x (by rw [h2.norm.recs]; exact hk)
theorem grec_no (g : GJ w J D G B L n K) {k : Int} (hk : k < 0 ∨ (L.length : Int) ≤ k) : Calls Try.prog 21 #[.pointer (some ⟨J, 0, none⟩), .int .i64 k] w fun e w' => e = .returned (.tuple #[strV [], .bool false]) ∧ w = w' := by
  obtain ⟨j, h1, h2⟩ := g
  exact record_no w h1 k (by rw [h2.norm.recs]; exact hk)
end
theorem gfresh (n : Nat) (h4 : 4 ≤ n) (hn : n ≤ 4096) (w : World) :
    Calls Try.prog 22 #[.int .i64 n] w fun e w' => ∃ D G B J, e = .returned (.tuple #[.pointer (some ⟨D, 0, none⟩), .pointer (some ⟨J, 0, none⟩), .bool true]) ∧ GJ w' J D G B [] n 0 ∧ (∀ i, InJ J D G B i → w.heap.size ≤ i) ∧ Kept NoM w w' := by
  refine (fresh_ok n h4 hn w).mono ?_
  rintro e w' ⟨D, G, B, J, j, rfl, q1, q2, q3, q4, q5, q6⟩
  exact ⟨D, G, B, J, rfl, ⟨j, q1, q2, q3, q4⟩, fun i hi => by unfold InJ InD at hi; omega, q6⟩
/-- a call whose first write meets the failing power -/
theorem Norm.app0 {j : Jn} {L : List Pg} {K : Nat} (s : Norm j L K) (ht : j.d.trip = 0) (x : Pg) (hE : rappE j.d.jcap L x = 0) : j.appE x = 13 ∧ j.app x = ⟨{ j.d with off := true }, j.h, j.recs, true⟩ := by
  obtain ⟨d, h, recs, cl⟩ := j
  obtain ⟨b, hi, hc, hr⟩ := s
  simp only at b hi hc hr ht hE ⊢
  subst hc; subst hr
  have hsz := b.f.size
  have h1 : ¬ 8000 < x.length := fun q => by unfold rappE at hE; rw [if_pos q] at hE; cases hE
  have h2 : ¬ d.jcap < h.size + (x.length + 2) := fun q => by unfold rappE at hE; rw [if_neg h1, if_pos (by omega)] at hE; cases hE
  have e1 : (Jn.mk d h recs false).appE x = if jkeepF d h (appHd h x) h.size (recB x) then 13 else 0 := by unfold Jn.appE; simp [h1, h2]
  have e2 : (Jn.mk d h recs false).app x = (Jn.mk d h recs false).keep (appHd h x) h.size (recB x) (recs ++ [x]) := by unfold Jn.app; simp [h1, h2]
  have hl : (recB x).length = x.length + 2 := rfl
  obtain ⟨f, hf⟩ : ∃ f, d.jfirst (appHd h x).bank = f := ⟨_, rfl⟩
  have hbk := bank_in b.f.n4 b.f.bank
  have hf2 : d.jfirst h.bank = f := hf
  have hput : jputs f d h.size (recB x) = ({ d with off := true }, 13) := by
    rw [jputs_step f d h.size (recB x) (by rw [hl]; omega)]
    obtain ⟨m, hm⟩ : ∃ m, partN h.size (recB x) = m := ⟨_, rfl⟩
    rw [hm]
    have hm1 : m ≤ (recB x).length ∧ h.size % 128 + m ≤ 128 := by rw [← hm]; unfold partN; omega
    have ei : (f : Int) + (h.size : Int) / 128 = ((f + h.size / 128 : Nat) : Int) := by omega
    have ek : (h.size : Int) % 128 = ((h.size % 128 : Nat) : Int) := by omega
    rw [ei, ek]
    rcases Dk.write_cases b.c.off (f + h.size / 128) (h.size % 128) ((recB x).take m) (by omega) (by rw [List.length_take]; omega) with ⟨_, g1, g2⟩ | ⟨g, _⟩
    · rw [g1, g2, if_neg (by decide)]
    · exact absurd ht g
  have hst := jstore1 (h := h) (hn := appHd h x) hf hput (by decide)
  have hF : jkeepF d h (appHd h x) h.size (recB x) = true := by unfold jkeepF; rw [hst]; rfl
  rw [e1, hF, e2]
  unfold Jn.keep jkeepD
  simp only [hF, hst]
  exact ⟨rfl, rfl⟩
end Go.Proofs.Ytjcmnobfdidnkaa
