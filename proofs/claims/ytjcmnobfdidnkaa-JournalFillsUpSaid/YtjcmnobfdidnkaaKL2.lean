/- Texts that belong together: L2, L3. -/
import Derived.Test.YtjcmnobfdidnkaaKL1
set_option linter.unusedVariables false
set_option linter.unusedSimpArgs false
set_option linter.unusedSectionVars false
/- Walks of the laws' functions: a journal is opened, made, and used. -/
namespace Go.Proofs.Ytjcmnobfdidnkaa
open Go.RowKit
set_option maxHeartbeats 4000000
set_option maxRecDepth 4000
theorem results_tmp4 {fn : Func} {t u v x : Tmp} (h : fn.results = #[.tmp t, .tmp u, .tmp v, .tmp x]) (tmps : Array Value) (P : Program) (w : World) :
    (results fn tmps).run P w = .ok (.tuple #[tmps.getD t undef, tmps.getD u undef, tmps.getD v undef, tmps.getD x undef]) w := by
  simp [results, h]
theorem Hd.Fits.ok {h : Hd} (f : h.Fits) : h.Ok := ⟨f.seq, f.bank, f.size, f.count, f.sum⟩
theorem Fit.hds {d : Dk} {h : Hd} {recs : List Pg} {K : Nat} (s : Fit d h recs K) : HdsOk d := fun i hi hz hb => (rd_ok (s.rd i hi) hz hb).ok
section
variable {j : Jn} {L : List Pg} {K : Nat}
theorem Norm.act (s : Norm j L K) (hK : K ≤ 700000000000) (o : Jo) :
    (j.actE o = rdoE j.d.jcap L o ∧ j.actI o = rdoI j.d.jcap L o ∧ Norm (j.act o) (rdoL j.d.jcap L o) (K + 1) ∧ (j.act o).d.n = j.d.n ∧ (j.d.trip = -1 → (j.act o).d.trip = -1)) ∨
      (j.actE o = 13 ∧ rdoE j.d.jcap L o = 0 ∧ Fell j (j.act o) L (rdoL j.d.jcap L o) K ∧ (o.kind = 1 ∨ o.kind = 2 → (j.act o).cl = true)) := by
  unfold Jn.actE Jn.actI Jn.act rdoE rdoI rdoL
  by_cases h1 : o.kind = 1
  · simp only [if_pos h1]
    rcases s.app hK o.text with ⟨q1, q2, q3, q4, q5⟩ | ⟨q1, q2, q3, q4⟩
    · exact .inl ⟨q1, q2, q3, q4, q5⟩
    · exact .inr ⟨q1, q2, q4, fun _ => q3⟩
  · simp only [if_neg h1, true_and]
    by_cases h2 : o.kind = 2
    · simp only [if_pos h2]
      rcases s.rep hK o.texts with ⟨q1, q3, q4, q5⟩ | ⟨q1, q2, q3, q4⟩
      · exact .inl ⟨q1, q3, q4, q5⟩
      · exact .inr ⟨q1, q2, q4, fun _ => q3⟩
    · simp only [if_neg h2]
      by_cases h3 : o.kind = 3
      · simp only [if_pos h3]
        rcases s.opn hK with ⟨q1, q3, q4, q5⟩ | ⟨q1, q2⟩
        · exact .inl ⟨q1, q3, q4, q5⟩
        · exact .inr ⟨q1, trivial, q2, fun h => by rcases h with h | h; exact absurd h h1; exact absurd h h2⟩
      · simp only [if_neg h3]
        exact .inl ⟨trivial, s.more (by omega), trivial, fun x => x⟩
end
/-- what the specification does is not seen by the journal -/
theorem RdS.besideR {w w' : World} {R : Nat} {a : Int} {v1 : Option Addr} {n1 c1 : Nat} {M : Nat → Prop} {v : Value} {xs : List Pg} (h : RdS w M 1 EStr v xs) (hR : w.heap[R]? = some (.cells #[.int .i64 a, .slice v1 n1 c1] 45 (0, 0))) (k : Kept (fun i => i = R) w w') : RdS w' M 1 EStr v xs := by
  obtain ⟨a1, cap, e, h1, h2, h3⟩ := h
  refine ⟨a1, cap, e, h1, h2, ?_⟩
  rcases h3 with h3 | ⟨b, off, e2, h3⟩
  · exact .inl h3
  · refine .inr ⟨b, off, e2, fun i x hx => ?_⟩
    obtain ⟨m, cs, rfl, hl, hc⟩ := h3 i x hx
    refine ⟨m, _, rfl, hl, fun q u hu => ?_⟩
    have hcq := hc q u hu
    refine k.cell hcq (fun e3 => ?_)
    simp only at e3
    subst e3
    match q with
    | 0 =>
      cases hu
      rw [World.cell?, hR] at hcq
      revert hcq
      generalize off + i * 1 + 0 = m
      match m with
      | 0 => intro hcq; simp [strV] at hcq
      | 1 => intro hcq; simp [strV] at hcq
      | m + 2 => intro hcq; simp at hcq
    | q + 1 => simp at hu
theorem JM.beside {w w' : World} {J D G B R sz : Nat} {j : Jn} {L : List Pg} {X : Nat → Prop} (s : JM w J D G B j) (r : RS w R sz L X) (hR : ¬ InJ J D G B R) (k : Kept (fun i => i = R) w w') : JM w' J D G B j := by
  obtain ⟨a, cap, h1, h2⟩ := JS.ex s
  obtain ⟨ra, rc, hr, _⟩ := r.ex
  unfold InJ InD at hR
  exact ⟨(JS.p s).kept k (by omega) (by omega) (by omega), JS.ne s, a, cap, k.blk h1 (by omega), h2.besideR hr k⟩
/-- the law's open, where the power stays -/
theorem lopen_ok {d : Dk} {h : Hd} {recs : List Pg} {K : Nat} (s : Fit d h recs K) (hf : h.Fits) (ht : d.trip = -1) {D G B : Nat} (w : World) (p : PD w D G B d) :
    Calls Try.prog 25 #[.pointer (some ⟨D, 0, none⟩)] w fun e w' => ∃ J, e = .returned (.tuple #[.pointer (some ⟨J, 0, none⟩), .bool true]) ∧ JM w' J D G B ⟨jopenD d, h, recs, false⟩ ∧ w.heap.size ≤ J ∧ Kept (InD D G B) w w' := by
  obtain ⟨h1, h2, h3⟩ := s.open_ hf
  have hE : jopenE d = 0 := by
    rcases h3 with ⟨q, _⟩ | ⟨_, _, _, _, q, _⟩
    · exact q
    · exact absurd ht q
  have OP := Lib.hid ((open_ok s.f.n4 s.hds s.c.off w p).mono (R' := fun e w' => ∃ J, e = .returned (.tuple #[.pointer (some ⟨J, 0, none⟩), .int .i64 0]) ∧ JM w' J D G B ⟨jopenD d, h, recs, false⟩ ∧ w.heap.size ≤ J ∧ Kept (InD D G B) w w') (fun e w' q => by
    rcases q with ⟨q, _⟩ | ⟨_, J, l, q1, q2, q3, q4, q5⟩
    · exact absurd hE q
    · rw [h1] at q2 q3
      rw [h2] at q2
      cases q2
      exact ⟨J, q1, q3, q4, q5⟩))
  clear h1 h2 h3 hE p s
  go_enter Try.func25, Try.ntmps25
  go_wp2_with (go_at_call 11; refine OP.out.mono ?_; rintro e w1 ⟨J, rfl, q1⟩; have Q1 := Lib.hid q1; clear q1)
  go_ret2
  exact ⟨J, rfl, Q1.out⟩
theorem fresh_ok (n : Nat) (h4 : 4 ≤ n) (hn : n ≤ 4096) (w : World) :
    Calls Try.prog 22 #[.int .i64 n] w fun e w' => ∃ D G B J j, e = .returned (.tuple #[.pointer (some ⟨D, 0, none⟩), .pointer (some ⟨J, 0, none⟩), .bool true]) ∧ JM w' J D G B j ∧ Norm j [] 0 ∧ j.d.n = n ∧ j.d.trip = -1 ∧ (w.heap.size ≤ D ∧ w.heap.size ≤ G ∧ w.heap.size ≤ B ∧ w.heap.size ≤ J) ∧ Kept NoM w w' := by
  have NW := Lib.hid (new_ok n (by omega) hn w)
  have b := new_both n h4
  have hnn : (Dk.new n).n = n := List.length_replicate
  have LO : Hid (∀ wx D G B, PD wx D G B (Dk.new n) → Calls Try.prog 25 #[.pointer (some ⟨D, 0, none⟩)] wx fun e w' => ∃ J, e = .returned (.tuple #[.pointer (some ⟨J, 0, none⟩), .bool true]) ∧ JM w' J D G B ⟨jopenD (Dk.new n), hd0, [], false⟩ ∧ wx.heap.size ≤ J ∧ Kept (InD D G B) wx w') := Lib.hid (fun wx D G B p => lopen_ok b.fit (b.f.fits (by omega) (by omega)) rfl wx p)
  have NM : Hid (Norm ⟨jopenD (Dk.new n), hd0, [], false⟩ [] 0 ∧ (jopenD (Dk.new n)).n = n ∧ (jopenD (Dk.new n)).trip = -1) := Lib.hid (by
    obtain ⟨h1, h2, h3⟩ := b.fit.open_ (b.f.fits (by omega) (by omega))
    rcases h3 with ⟨q1, q2, q3, q4⟩ | ⟨_, _, _, _, q, _⟩
    · exact ⟨⟨q2, by show (jopenD (Dk.new n)).n ≤ 4096; rw [q3]; omega, rfl, rfl⟩, q3.trans hnn, q4 rfl⟩
    · exact absurd rfl q)
  clear b hnn
  go_enter Try.func22, Try.ntmps22
  go_wp2_with (first | (go_at_call 10; refine NW.out.mono ?_; rintro e w1 ⟨D, G, B, rfl, p1, l1, k1⟩; have P1 := Lib.hid (And.intro l1 k1); have LO1 := Lib.hid (LO.out _ D G B p1); clear p1 l1 k1) | (go_at_call 25; refine LO1.out.mono ?_; rintro e w2 ⟨J, rfl, p2, l2, k2⟩; have P2 := Lib.hid (And.intro p2 (And.intro l2 k2)); clear p2 l2 k2))
  go_ret3
  have hl := P1.out.1
  have hs := P1.out.2.size
  refine ⟨D, G, B, J, _, rfl, P2.out.1, NM.out.1, NM.out.2.1, NM.out.2.2, ⟨hl.1, hl.2.1, hl.2.2, Nat.le_trans hs P2.out.2.1⟩, P1.out.2.trans' P2.out.2.2 (fun i hi x => ?_)⟩
  unfold InD at x
  omega
/-- the journal and the specification's list behind so many calls -/
def jafter (j : Jn) (l : List Jo) : Jn := l.foldl Jn.act j
def rafter (sz : Nat) (l : List Jo) : List Pg := l.foldl (fun L o => rdoL sz L o) []
theorem jafter_take {j : Jn} {l : List Jo} {k : Nat} {o : Jo} (h : l[k]? = some o) : jafter j (l.take (k + 1)) = (jafter j (l.take k)).act o := by
  unfold jafter
  rw [List.take_add_one, h]
  simp
theorem rafter_take {sz : Nat} {l : List Jo} {k : Nat} {o : Jo} (h : l[k]? = some o) : rafter sz (l.take (k + 1)) = rdoL sz (rafter sz (l.take k)) o := by
  unfold rafter
  rw [List.take_add_one, h]
  simp
theorem fewJ_at {l : List Jo} (h : fewJ l = true) : l.length ≤ 10 ∧ ∀ (k : Nat) (o : Jo), l[k]? = some o → fewJo o = true := by
  unfold fewJ at h
  simp only [Bool.and_eq_true, decide_eq_true_eq, List.all_eq_true] at h
  exact ⟨h.1, fun k o ho => h.2 o (List.mem_of_getElem? ho)⟩
/-- what is so behind calls that succeed -/
structure Going (j : Jn) (L : List Pg) (n K : Nat) : Prop where
  norm : Norm j L K
  n : j.d.n = n
  trip : j.d.trip = -1
theorem Going.act {j : Jn} {L : List Pg} {n K : Nat} (g : Going j L n K) (hK : K ≤ 700000000000) (o : Jo) : j.actE o = rdoE ((n - 2) / 2 * 128) L o ∧ j.actI o = rdoI ((n - 2) / 2 * 128) L o ∧ Going (j.act o) (rdoL ((n - 2) / 2 * 128) L o) n (K + 1) := by
  have hc : j.d.jcap = (n - 2) / 2 * 128 := by unfold Dk.jcap Dk.jp; rw [g.n]
  rw [← hc]
  rcases g.norm.act hK o with ⟨q1, q2, q3, q4, q5⟩ | ⟨q1, q2, q3, q4⟩
  · exact ⟨q1, q2, ⟨q3, q4.trans g.n, q5 g.trip⟩⟩
  · exact absurd g.trip q3.trip
theorem Going.lens {j : Jn} {L : List Pg} {n K : Nat} (g : Going j L n K) : L.length ≤ 300000 ∧ (streamS L).length ≤ 300000 ∧ 4 ≤ n ∧ n ≤ 4096 ∧ (n - 2) / 2 * 128 ≤ 300000 := by
  have h := g.norm.both.f.lens g.norm.hi
  rw [g.norm.recs] at h
  have h4 := g.norm.both.f.n4
  have hh := g.norm.hi
  rw [g.n] at h4 hh
  exact ⟨h.2.2.1, h.2.2.2.1, h4, hh, by omega⟩
theorem Going.open_ {j : Jn} {L : List Pg} {n K : Nat} (g : Going j L n K) : HdsOk j.d ∧ j.d.off = false := ⟨g.norm.both.fit.hds, g.norm.both.c.off⟩
theorem after_ok (n : Nat) (h4 : 4 ≤ n) (hn : n ≤ 4096) (v : Value) (l : List Jo) (hl : fewJ l = true) (w : World) (hv : RdS w NoM 4 EJo v l) :
    Calls Try.prog 26 #[.int .i64 n, v] w fun e w' => ∃ D G B J R j L, e = .returned (.tuple #[.pointer (some ⟨D, 0, none⟩), .pointer (some ⟨J, 0, none⟩), .pointer (some ⟨R, 0, none⟩), .bool true]) ∧ JM w' J D G B j ∧ RS w' R ((n - 2) / 2 * 128) L (InJ J D G B) ∧ Going j L n 10 ∧ (w.heap.size ≤ D ∧ w.heap.size ≤ G ∧ w.heap.size ≤ B ∧ w.heap.size ≤ J ∧ w.heap.size ≤ R ∧ ¬ InJ J D G B R) ∧ Kept NoM w w' := by
  obtain ⟨l10, lf⟩ := fewJ_at hl
  obtain ⟨va, vc, rfl, _, _⟩ := hv.shape
  have HV := Lib.hid hv
  have LF := Lib.hid lf
  have FR := Lib.hid (fresh_ok n h4 hn w)
  have RN := Lib.hid (fun wx X => rnew_ok X n h4 hn wx)
  clear hv hl lf
  obtain ⟨sz, hsz⟩ : ∃ sz, (n - 2) / 2 * 128 = sz := ⟨_, rfl⟩
  rw [hsz] at RN ⊢
  have HSZ := Lib.hid hsz
  clear hsz
  go_enter Try.func26, Try.ntmps26
  go_wp2_with (first | (go_at_call 22; refine FR.out.mono ?_; rintro e w1 ⟨D, G, B, J, j0, rfl, p1, n1, n2, n3, l1, k1⟩; have P1 := Lib.hid (And.intro p1 (And.intro n1 (And.intro n2 (And.intro n3 (And.intro l1 k1))))); clear p1 n1 n2 n3 l1 k1) | (go_at_call 12; refine (RN.out _ (InJ J D G B)).mono ?_; rintro e w2 ⟨R, rfl, p2, l2, k2⟩; have P2 := Lib.hid (And.intro p2 (And.intro l2 k2)); clear p2 l2 k2))
  have hlt := JS.lt P1.out.1
  have hRJ : ¬ InJ J D G B R := fun x => by have := hlt R x; have := P2.out.2.1; omega
  have hnew := P1.out.2.2.2.2.1
  have hJn : ∀ i, InJ J D G B i → w.heap.size ≤ i := fun i x => by unfold InJ InD at x; omega
  have S0 : ∃ (j : Jn) (L : List Pg), JM w2 J D G B j ∧ RS w2 R sz L (InJ J D G B) ∧ Going j L n 0 :=
    ⟨j0, [], JS.kept0 P1.out.1 P2.out.2.2, P2.out.1, ⟨P1.out.2.1, P1.out.2.2.1, P1.out.2.2.2.1⟩⟩
  have K0 : Kept NoM w w2 := P1.out.2.2.2.2.2.trans P2.out.2.2
  have HR := Lib.hid (And.intro (show w.heap.size ≤ R by have := P1.out.2.2.2.2.2.size; have := P2.out.2.1; omega) (And.intro hnew (And.intro hRJ hJn)))
  clear hlt hRJ hnew hJn
  go_loopw [9, 13] (fun s9 i wr => ∃ k : Nat, k ≤ l.length ∧ i = .int .i64 k ∧ ∃ (J' : Nat) (j : Jn) (L : List Pg), s9 = .pointer (some ⟨J', 0, none⟩) ∧ w.heap.size ≤ J' ∧ ¬ InJ J' D G B R ∧ JM wr J' D G B j ∧ RS wr R sz L (InJ J' D G B) ∧ Going j L n k ∧ Kept NoM w wr) (fun _ i _ => l.length - (intOf i).toNat)
  case atStart =>
    obtain ⟨j, L, a1, a2, a3⟩ := S0
    exact ⟨0, Nat.zero_le _, rfl, J, j, L, rfl, HR.out.2.1.2.2.2, HR.out.2.2.1, a1, a2, a3, K0⟩
  case round =>
    obtain ⟨k, hk, rfl, J', j, L, rfl, a1, a2, a3, a4, a5, a6⟩ := hrel
    have HS := Lib.hid (And.intro a1 (And.intro a2 (And.intro a3 (And.intro a4 (And.intro a5 a6)))))
    clear a1 a2 a3 a4 a5 a6 S0 K0
    by_cases hlt : k < l.length
    · have hki : (k : Int) < l.length := by omega
      obtain ⟨o, ho⟩ := getAt hlt
      obtain ⟨b, off, e1, _, cs, rfl, _, hc⟩ := (HV.out.kept HS.out.2.2.2.2.2 (fun _ _ x => x)).at ho
      subst e1
      have x0 := hc 0 _ rfl
      have x1 := hc 1 _ rfl
      have x2 := hc 2 _ rfl
      have x3 := hc 3 _ rfl
      simp only [Nat.add_zero] at x0
      have hfo := LF.out k o ho
      obtain ⟨g1, g2, g3⟩ := HS.out.2.2.2.2.1.act (by omega) o
      rw [HSZ.out] at g1 g2 g3
      have hlen := HS.out.2.2.2.2.1.lens
      have HBO := Lib.hid (HV.out.kept HS.out.2.2.2.2.2 (fun _ _ x => x))
      have DOC := Lib.hid (do_ok j o hfo (K := k) (by omega) HS.out.2.2.2.2.1.norm.both.f (fun _ => HS.out.2.2.2.2.1.open_) wr HS.out.2.2.1)
      have hsz9 : sz ≤ 300000 := by rw [← HSZ.out]; exact hlen.2.2.2.2
      have RDO : Hid (∀ wx J2, Kept (InJ J' D G B) wr wx → (J2 = J' ∨ wr.heap.size ≤ J2) → JM wx J2 D G B (j.act o) → Calls Try.prog 14 #[.pointer (some ⟨R, 0, none⟩), .agg (joC o)] wx fun e w' => e = .returned (.tuple #[.int .i64 (rdoI sz L o), .int .i64 (rdoE sz L o)]) ∧ JM w' J2 D G B (j.act o) ∧ RS w' R sz (rdoL sz L o) (InJ J2 D G B) ∧ ¬ InJ J2 D G B R ∧ Kept (fun i => i = R) wx w') := Lib.hid (fun wx J2 kx hJ2 js2 => by
        have hlt := HS.out.2.2.2.1.lt
        have hR2 : ¬ InJ J2 D G B R := fun x => HS.out.2.1 (by
          rcases x with x | x
          · rcases hJ2 with h | h
            · exact .inl (by omega)
            · omega
          · exact .inr x)
        have r2 : RS wx R sz L (InJ J2 D G B) := ((HS.out.2.2.2.1.turn (X' := fun i => InJ J' D G B i ∨ InJ J2 D G B i) (fun i hi x => by
          rcases x with x | x
          · exact x
          · rcases x with x | x
            · rcases hJ2 with h | h
              · exact .inl (by omega)
              · omega
            · exact .inr x)).beside (kx.mono fun i _ x => .inl x) (fun x => by rcases x with x | x; exact HS.out.2.1 x; exact hR2 x)).turn (fun i _ x => .inr x)
        refine (rdo_ok o hfo R sz L (by omega) (by omega) (by omega) wx (fun i hi => JS.lt js2 i hi) r2).mono ?_
        rintro e w' ⟨q1, q2, q3⟩
        exact ⟨q1, js2.beside r2 hR2 q3, q2, hR2, q3⟩)
      have hGo := Lib.hid (And.intro g1 (And.intro g2 g3))
      have hb0 : ∀ w', Kept NoM w w' → True := fun _ _ => trivial
      have XC : Hid (∀ w', Kept (InJ J' D G B) wr w' → w'.cell? ⟨b, off + k * 4, none⟩ = some (.int .i64 o.kind) ∧ w'.cell? ⟨b, off + k * 4 + 1, none⟩ = some (.int .i64 o.n) ∧ w'.cell? ⟨b, off + k * 4 + 2, none⟩ = some (.int .i64 o.k) ∧ w'.cell? ⟨b, off + k * 4 + 3, none⟩ = some (.int .u8 o.fill.toNat)) := Lib.hid (fun w' kx => by
        have hbw : b < w.heap.size := by
          have hv0 := HV.out
          obtain ⟨b5, off5, e5, _, cs5, rfl, _, hc5⟩ := hv0.at ho
          cases e5
          exact World.block_lt_of_cell? w _ (hc5 0 _ rfl)
        have hnb : ¬ InJ J' D G B b := fun x => by
          rcases x with x | x
          · have := HS.out.1; omega
          · have := HR.out.2.2.2 b (.inr x); omega
        exact ⟨kx.cell x0 hnb, kx.cell x1 hnb, kx.cell x2 hnb, kx.cell x3 hnb⟩)
      clear hc g1 g2 g3 hlen hb0 hfo ho
      unfold joC at DOC RDO
      go_wp2_with (first | (go_at_call 13; refine DOC.out.mono ?_; rintro e w3 ⟨J2, rfl, q1, q2, q3⟩; have q2 := q2.imp id And.right; have Q := Lib.hid (And.intro q1 (And.intro q2 q3)); have RD1 := Lib.hid (RDO.out w3 J2 q3 q2 q1); obtain ⟨z0, z1, z2, z3⟩ := XC.out w3 q3; clear q1 q2 q3) | (go_at_call 14; refine RD1.out.mono ?_; rintro e w4 ⟨rfl, q1, q2, q3, q4⟩; rw [← hGo.out.1]; have Q4 := Lib.hid (And.intro q1 (And.intro q2 (And.intro q3 q4))); clear q1 q2 q3 q4))
      go_roundw
      case rel =>
        have hwz := HS.out.2.2.2.2.2.size
        refine ⟨k + 1, by omega, by go_num, J2, _, _, rfl, ?_, Q4.out.2.2.1, Q4.out.1, Q4.out.2.1, hGo.out.2.2, ?_⟩
        · rcases Q.out.2.1 with h | h
          · rw [h]; exact HS.out.1
          · omega
        · have k1 : Kept (fun i => w.heap.size ≤ i) wr w3 := Q.out.2.2.mono (fun i _ x => by
            rcases x with x | x
            · rw [x]; exact HS.out.1
            · exact HR.out.2.2.2 i (.inr x))
          have k2 : Kept (fun i => w.heap.size ≤ i) w3 w4 := Q4.out.2.2.2.mono (fun i _ x => by rw [x]; exact HR.out.1)
          exact HS.out.2.2.2.2.2.trans' (k1.trans k2) (fun i hi x => by omega)
      case measure => simp [intOf]; omega
    · obtain rfl : k = l.length := by omega
      have f1 := decide_eq_false (show ¬ ((l.length : Nat) : Int) < l.length by omega)
      have f2 := decide_eq_false (show ¬ l.length < l.length by omega)
      go_wp2_with fail
      refine bodyPost_ret (results_tmp4 rfl _ _ _) rfl ?_
      have g := HS.out.2.2.2.2.1
      refine ⟨D, G, B, J', R, j, L, rfl, HS.out.2.2.1, HS.out.2.2.2.1, ⟨g.norm.more (by omega), g.n, g.trip⟩, ⟨HR.out.2.1.1, HR.out.2.1.2.1, HR.out.2.1.2.2.1, HS.out.1, HR.out.1, HS.out.2.1⟩, HS.out.2.2.2.2.2⟩
end Go.Proofs.Ytjcmnobfdidnkaa

/- What the laws' walks share: a journal that works, with a list of records. -/
namespace Go.Proofs.Ytjcmnobfdidnkaa
open Go.RowKit
set_option maxHeartbeats 2000000
set_option maxRecDepth 4000
def capN (n : Nat) : Nat := (n - 2) / 2 * 128
/-- a journal in block J that works, and holds the records L -/
def GJ (w : World) (J D G B : Nat) (L : List Pg) (n K : Nat) : Prop := ∃ j, JM w J D G B j ∧ Going j L n K
section
variable {w w' : World} {J D G B n K : Nat} {L : List Pg}
theorem GJ.lens (g : GJ w J D G B L n K) : L.length ≤ 300000 ∧ (streamS L).length ≤ 300000 ∧ 4 ≤ n ∧ n ≤ 4096 ∧ capN n ≤ 300000 ∧ (streamS L).length ≤ capN n := by
  obtain ⟨j, h1, h2⟩ := g
  obtain ⟨a1, a2, a3, a4, a5⟩ := h2.lens
  refine ⟨a1, a2, a3, a4, a5, ?_⟩
  have h3 := h2.norm.both.f.cap
  have h4 := h2.norm.both.f.size
  rw [h2.norm.recs] at h4
  have : j.d.jcap = capN n := by unfold Dk.jcap Dk.jp capN; rw [h2.n]
  omega
theorem GJ.kept0 (g : GJ w J D G B L n K) (k : Kept NoM w w') : GJ w' J D G B L n K := by
  obtain ⟨j, h1, h2⟩ := g
  exact ⟨j, JS.kept0 h1 k, h2⟩
theorem GJ.lt (g : GJ w J D G B L n K) : ∀ i, InJ J D G B i → i < w.heap.size := by
  obtain ⟨j, h1, h2⟩ := g
  exact JS.lt h1
theorem GJ.more (g : GJ w J D G B L n K) {K' : Nat} (h : K ≤ K') : GJ w J D G B L n K' := by
  obtain ⟨j, h1, h2⟩ := g
  exact ⟨j, h1, h2.norm.more h, h2.n, h2.trip⟩
theorem GJ.beside {R sz : Nat} {L' : List Pg} {X : Nat → Prop} (g : GJ w J D G B L n K) (r : RS w R sz L' X) (hR : ¬ InJ J D G B R) (k : Kept (fun i => i = R) w w') : GJ w' J D G B L n K := by
  obtain ⟨j, h1, h2⟩ := g
  exact ⟨j, h1.beside r hR k, h2⟩
theorem gapp (g : GJ w J D G B L n K) (hK : K ≤ 700000000000) (x : Pg) : Calls Try.prog 24 #[.pointer (some ⟨J, 0, none⟩), .string ⟨x.toArray⟩] w fun e w' => e = .returned (.tuple #[.int .i64 (rappI (capN n) L x), .int .i64 (rappE (capN n) L x)]) ∧ GJ w' J D G B (rappL (capN n) L x) n (K + 1) ∧ Kept (InJ J D G B) w w' := by
  obtain ⟨j, h1, h2⟩ := g
  refine (append_ok j x hK h2.norm.both.f w h1).mono ?_
  rintro e w' ⟨rfl, q1, q2⟩
  have hc : j.d.jcap = capN n := by unfold Dk.jcap Dk.jp capN; rw [h2.n]
  rcases h2.norm.app hK x with ⟨t1, t2, t3, t4, t5⟩ | ⟨_, _, _, t⟩
  · rw [t1, t2, hc]
    exact ⟨rfl, ⟨_, q1, by rw [← hc]; exact t3, t4.trans h2.n, t5 h2.trip⟩, q2⟩
  · exact absurd h2.trip t.trip
theorem grep_ (g : GJ w J D G B L n K) (hK : K ≤ 700000000000) {v : Value} {l : List Pg} (hll : l.length ≤ 1000000) (hsl : (streamS l).length ≤ 100000000) (hv : RdS w NoM 1 EStr v l) : Calls Try.prog 29 #[.pointer (some ⟨J, 0, none⟩), v] w fun e w' => e = .returned (.int .i64 (rrepE (capN n) l)) ∧ GJ w' J D G B (rrepL (capN n) L l) n (K + 1) ∧ Kept (InJ J D G B) w w' := by
  obtain ⟨j, h1, h2⟩ := g
  refine (replace_ok j v l hll hsl hK h2.norm.both.f w h1 hv).mono ?_
  rintro e w' ⟨rfl, q1, q2⟩
  have hc : j.d.jcap = capN n := by unfold Dk.jcap Dk.jp capN; rw [h2.n]
  rcases h2.norm.rep hK l with ⟨t1, t3, t4, t5⟩ | ⟨_, _, _, t⟩
  · rw [t1, hc]
    exact ⟨rfl, ⟨_, q1, by rw [← hc]; exact t3, t4.trans h2.n, t5 h2.trip⟩, q2⟩
  · exact absurd h2.trip t.trip
theorem gdo (g : GJ w J D G B L n K) (hK : K ≤ 700000000000) (o : Jo) (hf : fewJo o = true) : Calls Try.prog 13 #[.pointer (some ⟨D, 0, none⟩), .pointer (some ⟨J, 0, none⟩), .agg (joC o)] w fun e w' => ∃ J', e = .returned (.tuple #[.pointer (some ⟨J', 0, none⟩), .int .i64 (rdoI (capN n) L o), .int .i64 (rdoE (capN n) L o)]) ∧ GJ w' J' D G B (rdoL (capN n) L o) n (K + 1) ∧ (J' = J ∨ w.heap.size ≤ J') ∧ Kept (InJ J D G B) w w' := by
  obtain ⟨j, h1, h2⟩ := g
  refine (do_ok j o hf hK h2.norm.both.f (fun _ => h2.open_) w h1).mono ?_
  rintro e w' ⟨J', rfl, q1, q2, q3⟩
  obtain ⟨t1, t2, t3⟩ := h2.act hK o
  rw [t1, t2]
  exact ⟨J', rfl, ⟨_, q1, t3⟩, q2.imp id And.right, q3⟩
/-- a disk from which the records L are read -/
def FD (w : World) (D G B : Nat) (d : Dk) (L : List Pg) (K : Nat) : Prop := PD w D G B d ∧ ∃ h, h.Fits ∧ Fit d h L K
theorem GJ.fd (g : GJ w J D G B L n K) (hK : K ≤ 700000000000) : ∃ d, FD w D G B d L K ∧ d.n = n ∧ d.trip = -1 := by
  obtain ⟨j, h1, h2⟩ := g
  refine ⟨j.d, ⟨JS.p h1, j.h, h2.norm.fits hK, ?_⟩, h2.n, h2.trip⟩
  have := h2.norm.both.fit
  rw [h2.norm.recs] at this
  exact this
theorem FD.opn {d : Dk} (f : FD w D G B d L K) (hn : d.n = n) (h4 : n ≤ 4096) (ht : d.trip = -1) :
    Calls Try.prog 25 #[.pointer (some ⟨D, 0, none⟩)] w fun e w' => ∃ J, e = .returned (.tuple #[.pointer (some ⟨J, 0, none⟩), .bool true]) ∧ GJ w' J D G B L n K ∧ w.heap.size ≤ J ∧ Kept (InD D G B) w w' := by
  obtain ⟨p, h, hf, s⟩ := f
  refine (lopen_ok s hf ht w p).mono ?_
  rintro e w' ⟨J, rfl, q1, q2, q3⟩
  obtain ⟨o1, o2, o3⟩ := s.open_ hf
  rcases o3 with ⟨r1, r2, r3, r4⟩ | ⟨_, _, _, _, r, _⟩
  · exact ⟨J, rfl, ⟨_, q1, ⟨r2, by show (jopenD d).n ≤ 4096; rw [r3, hn]; exact h4, rfl, rfl⟩, r3.trans hn, r4 ht⟩, q2, q3⟩
  · exact absurd ht r
theorem FD.opn2 {d : Dk} (f : FD w D G B d L K) (hn : d.n = n) (h4 : n ≤ 4096) (ht : d.trip = -1) :
    Calls Try.prog 11 #[.pointer (some ⟨D, 0, none⟩)] w fun e w' => ∃ J, e = .returned (.tuple #[.pointer (some ⟨J, 0, none⟩), .int .i64 0]) ∧ GJ w' J D G B L n K ∧ w.heap.size ≤ J ∧ Kept (InD D G B) w w' := by
  obtain ⟨p, h, hf, s⟩ := f
  obtain ⟨o1, o2, o3⟩ := s.open_ hf
  refine (open_ok s.f.n4 s.hds s.c.off w p).mono ?_
  rcases o3 with ⟨r1, r2, r3, r4⟩ | ⟨_, _, _, _, r, _⟩
  · rintro e w' (⟨q, _⟩ | ⟨_, J, l, q1, q2, q3, q4, q5⟩)
    · exact absurd r1 q
    · rw [o1] at q2 q3
      rw [o2] at q2
      cases q2
      exact ⟨J, q1, ⟨⟨jopenD d, h, _, false⟩, q3, ⟨r2, by show (jopenD d).n ≤ 4096; rw [r3, hn]; exact h4, rfl, rfl⟩, r3.trans hn, r4 ht⟩, q4, q5⟩
  · exact absurd ht r
theorem glen (g : GJ w J D G B L n K) : Calls Try.prog 17 #[.pointer (some ⟨J, 0, none⟩)] w fun e w' => e = .returned (.int .i64 L.length) ∧ w = w' := by
  obtain ⟨j, h1, h2⟩ := g
  have := jlen_ok w h1
  rw [h2.norm.recs] at this
  exact this
theorem gused (g : GJ w J D G B L n K) : Calls Try.prog 18 #[.pointer (some ⟨J, 0, none⟩)] w fun e w' => e = .returned (.int .i64 (streamS L).length) ∧ w = w' := by
  obtain ⟨j, h1, h2⟩ := g
  have := used_ok w h1
  rw [h2.norm.both.f.size, h2.norm.recs] at this
  exact this
theorem groom (g : GJ w J D G B L n K) : Calls Try.prog 20 #[.pointer (some ⟨J, 0, none⟩)] w fun e w' => e = .returned (.int .i64 ((capN n : Int) - (streamS L).length)) ∧ ∃ n, w' = w.drewN n := by
  have hl := g.lens
  obtain ⟨j, h1, h2⟩ := g
  have hc : j.d.jcap = capN n := by unfold Dk.jcap Dk.jp capN; rw [h2.n]
  have hs := h2.norm.both.f.size
  rw [h2.norm.recs] at hs
  have h4 := h2.norm.both.f.n4
  have := room_ok w h1 (by omega) (by omega)
  rw [hc, hs] at this
  exact this
theorem grecs (g : GJ w J D G B L n K) : Calls Try.prog 16 #[.pointer (some ⟨J, 0, none⟩)] w fun e w' => ∃ a cap O, e = .returned (.slice a L.length cap) ∧ OwnS w' O 9 1 EStr (.slice a L.length cap) L ∧ NewO w none O ∧ Kept NoM w w' := by
  have hl := g.lens
  obtain ⟨j, h1, h2⟩ := g
  have h3 := h2.norm.recs
  have := records_ok w h1 (by rw [h3]; omega)
  rw [h3] at this
  exact this
theorem grec_ok (g : GJ w J D G B L n K) {k : Nat} {x : Pg} (hk : L[k]? = some x) : Calls Try.prog 21 #[.pointer (some ⟨J, 0, none⟩), .int .i64 k] w fun e w' => e = .returned (.tuple #[strV x, .bool true]) ∧ w = w' := by
  obtain ⟨j, h1, h2⟩ := g
  exact record_ok w h1 k x (by rw [h2.norm.recs]; exact hk)
theorem grec_no (g : GJ w J D G B L n K) {k : Int} (hk : k < 0 ∨ (L.length : Int) ≤ k) : Calls Try.prog 21 #[.pointer (some ⟨J, 0, none⟩), .int .i64 k] w fun e w' => e = .returned (.tuple #[strV [], .bool false]) ∧ w = w' := by
  obtain ⟨j, h1, h2⟩ := g
  exact record_no w h1 k (by rw [h2.norm.recs]; exact hk)
end
theorem gfresh (n : Nat) (h4 : 4 ≤ n) (hn : n ≤ 4096) (w : World) :
    Calls Try.prog 22 #[.int .i64 n] w fun e w' => ∃ D G B J, e = .returned (.tuple #[.pointer (some ⟨D, 0, none⟩), .pointer (some ⟨J, 0, none⟩), .bool true]) ∧ GJ w' J D G B [] n 0 ∧ (∀ i, InJ J D G B i → w.heap.size ≤ i) ∧ Kept NoM w w' := by
  refine (fresh_ok n h4 hn w).mono ?_
  rintro e w' ⟨D, G, B, J, j, rfl, q1, q2, q3, q4, q5, q6⟩
  exact ⟨D, G, B, J, rfl, ⟨j, q1, q2, q3, q4⟩, fun i hi => by unfold InJ InD at hi; omega, q6⟩
/-- a call whose first write meets the failing power -/
theorem Norm.app0 {j : Jn} {L : List Pg} {K : Nat} (s : Norm j L K) (ht : j.d.trip = 0) (x : Pg) (hE : rappE j.d.jcap L x = 0) : j.appE x = 13 ∧ j.app x = ⟨{ j.d with off := true }, j.h, j.recs, true⟩ := by
  obtain ⟨d, h, recs, cl⟩ := j
  obtain ⟨b, hi, hc, hr⟩ := s
  simp only at b hi hc hr ht hE ⊢
  subst hc; subst hr
  have hsz := b.f.size
  have h1 : ¬ 8000 < x.length := fun q => by unfold rappE at hE; rw [if_pos q] at hE; cases hE
  have h2 : ¬ d.jcap < h.size + (x.length + 2) := fun q => by unfold rappE at hE; rw [if_neg h1, if_pos (by omega)] at hE; cases hE
  have e1 : (Jn.mk d h recs false).appE x = if jkeepF d h (appHd h x) h.size (recB x) then 13 else 0 := by unfold Jn.appE; simp [h1, h2]
  have e2 : (Jn.mk d h recs false).app x = (Jn.mk d h recs false).keep (appHd h x) h.size (recB x) (recs ++ [x]) := by unfold Jn.app; simp [h1, h2]
  have hl : (recB x).length = x.length + 2 := rfl
  obtain ⟨f, hf⟩ : ∃ f, d.jfirst (appHd h x).bank = f := ⟨_, rfl⟩
  have hbk := bank_in b.f.n4 b.f.bank
  have hf2 : d.jfirst h.bank = f := hf
  have hput : jputs f d h.size (recB x) = ({ d with off := true }, 13) := by
    rw [jputs_step f d h.size (recB x) (by rw [hl]; omega)]
    obtain ⟨m, hm⟩ : ∃ m, partN h.size (recB x) = m := ⟨_, rfl⟩
    rw [hm]
    have hm1 : m ≤ (recB x).length ∧ h.size % 128 + m ≤ 128 := by rw [← hm]; unfold partN; omega
    have ei : (f : Int) + (h.size : Int) / 128 = ((f + h.size / 128 : Nat) : Int) := by omega
    have ek : (h.size : Int) % 128 = ((h.size % 128 : Nat) : Int) := by omega
    rw [ei, ek]
    rcases Dk.write_cases b.c.off (f + h.size / 128) (h.size % 128) ((recB x).take m) (by omega) (by rw [List.length_take]; omega) with ⟨_, g1, g2⟩ | ⟨g, _⟩
    · rw [g1, g2, if_neg (by decide)]
    · exact absurd ht g
  have hst := jstore1 (h := h) (hn := appHd h x) hf hput (by decide)
  have hF : jkeepF d h (appHd h x) h.size (recB x) = true := by unfold jkeepF; rw [hst]; rfl
  rw [e1, hF, e2]
  unfold Jn.keep jkeepD
  simp only [hF, hst]
  exact ⟨rfl, rfl⟩
end Go.Proofs.Ytjcmnobfdidnkaa
