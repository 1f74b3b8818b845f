/- Walks: a script played on a fresh disk of either kind. -/
import Derived.Test.YtohijdopmokkgaaKE4
set_option linter.unusedVariables false
set_option linter.unusedSimpArgs false
set_option linter.unusedSectionVars false
namespace Go.Proofs.Ytohijdopmokkgaa
open Go.RowKit
set_option maxHeartbeats 2000000
set_option maxRecDepth 4000
theorem played_bad (n : Int) (hn : n < 1 ∨ 4096 < n) (v : Value) (w : World) : Calls Try.prog 16 #[.int .i64 n, v] w fun e w' => e = .returned (.tuple #[.pointer none, .pointer none, .bool false]) ∧ w = w' := by
  go_enter Try.func16, Try.ntmps16
  go_wp2_with (first | (go_at_call 11; refine (new_bad n hn _).mono ?_; rintro e w1 ⟨rfl, rfl⟩) | (go_at_call 12; refine (rnew_bad n hn _).mono ?_; rintro e w1 ⟨rfl, rfl⟩))
  go_ret3
  exact ⟨rfl, rfl⟩
/-- two disks of one state, in blocks of their own -/
structure Both (w0 w : World) (D G B R Q : Nat) (d : Dk) : Prop where
  p : PD w D G B d
  s : SD w R Q d
  lp : w0.heap.size ≤ D ∧ w0.heap.size ≤ G ∧ w0.heap.size ≤ B
  ls : w0.heap.size ≤ R ∧ w0.heap.size ≤ Q
  sep : (D < R ∧ G < R ∧ B < R) ∧ (D < Q ∧ G < Q ∧ B < Q)
  k : Kept NoM w0 w
theorem Both.kept0 {w0 w w' : World} {D G B R Q : Nat} {d : Dk} (h : Both w0 w D G B R Q d) (k : Kept NoM w w') : Both w0 w' D G B R Q d :=
  ⟨h.p.kept0 k, h.s.kept0 k, h.lp, h.ls, h.sep, h.k.trans k⟩
theorem Both.playD {w0 w w1 w2 : World} {D G B R Q : Nat} {d d' : Dk} (h : Both w0 w D G B R Q d) (hp : PD w1 D G B d') (k1 : Kept (InD D G B) w w1) (hs : SD w2 R Q d') (k2 : Kept (InS R Q) w1 w2) : Both w0 w2 D G B R Q d' := by
  obtain ⟨_, _, ⟨l1, l2, l3⟩, ⟨l4, l5⟩, ⟨⟨s1, s2, s3⟩, s4, s5, s6⟩, k⟩ := h
  refine ⟨hp.kept k2 ?_ ?_ ?_, hs, ⟨l1, l2, l3⟩, ⟨l4, l5⟩, ⟨⟨s1, s2, s3⟩, s4, s5, s6⟩, (k.trans' k1 ?_).trans' k2 ?_⟩
  · unfold InS; omega
  · unfold InS; omega
  · unfold InS; omega
  · intro i hi hm; unfold InD at hm; omega
  · intro i hi hm; unfold InS at hm; omega
theorem Both.spec {w0 w w1 : World} {D G B R Q : Nat} {d : Dk} (h : Both w0 w D G B R Q d) (k1 : Kept (InD D G B) w w1) : SD w1 R Q d := by
  obtain ⟨_, hs, _, _, ⟨⟨s1, s2, s3⟩, s4, s5, s6⟩, _⟩ := h
  refine hs.kept k1 ?_ ?_ <;> unfold InD <;> omega
theorem Both.kD {w0 w w1 : World} {D G B R Q : Nat} {d : Dk} (h : Both w0 w D G B R Q d) (k1 : Kept (InD D G B) w w1) : Kept NoM w0 w1 := by
  obtain ⟨_, _, ⟨l1, l2, l3⟩, _, _, k⟩ := h
  exact k.trans' k1 fun i hi hm => by unfold InD at hm; omega
theorem Both.picksD {w0 w : World} {D G B R Q : Nat} {d : Dk} (h : Both w0 w D G B R Q d) {v : Value} {xs : List Int} (hp : RdS w0 NoM 1 EInt v xs) : RdS w (InD D G B) 1 EInt v xs := by
  obtain ⟨_, _, ⟨l1, l2, l3⟩, _, _, k⟩ := h
  exact RdS.step hp k (fun i hi hm => by unfold InD at hm; omega) (by omega) (fun _ _ x => x)
theorem Both.picksS {w0 w w1 : World} {D G B R Q : Nat} {d : Dk} (h : Both w0 w D G B R Q d) (k1 : Kept (InD D G B) w w1) {v : Value} {xs : List Int} (hp : RdS w0 NoM 1 EInt v xs) : RdS w1 (InS R Q) 1 EInt v xs := by
  have k := h.kD k1
  obtain ⟨_, _, _, ⟨l4, l5⟩, _⟩ := h
  exact RdS.step hp k (fun i hi hm => by unfold InS at hm; omega) (by omega) (fun _ _ x => x)
theorem Both.lts {w0 w : World} {D G B R Q : Nat} {d : Dk} (h : Both w0 w D G B R Q d) : ∀ M, ¬ InD D G B (w.heap.size + M) := by
  intro M hm
  have := h.p.lt
  unfold InD at hm
  omega
theorem Both.start {w0 w1 w : World} {D G B R Q : Nat} {d : Dk} (hp : PD w1 D G B d) (hlp : w0.heap.size ≤ D ∧ w0.heap.size ≤ G ∧ w0.heap.size ≤ B) (k1 : Kept NoM w0 w1) (hs : SD w R Q d) (hls : w1.heap.size ≤ R ∧ w1.heap.size ≤ Q) (k2 : Kept NoM w1 w) : Both w0 w D G B R Q d := by
  have hz := k1.size
  obtain ⟨p1, p2, p3⟩ := hp.lt
  exact ⟨hp.kept0 k2, hs, hlp, ⟨by omega, by omega⟩, ⟨⟨by omega, by omega, by omega⟩, by omega, by omega, by omega⟩, k1.trans k2⟩
theorem played_ok (n : Nat) (h1 : 1 ≤ n) (h2 : n ≤ 4096) (v : Value) (l : List Op) (w : World) (h : RdOps w v l) (hf : ∀ x ∈ l, x.text.length ≤ 1000 ∧ x.picks.length ≤ 1000) :
    Calls Try.prog 16 #[.int .i64 n, v] w fun e w' => ∃ D G B R Q, e = .returned (.tuple #[.pointer (some ⟨D, 0, none⟩), .pointer (some ⟨R, 0, none⟩), .bool true]) ∧ Both w w' D G B R Q ((Dk.new n).plays l) := by
  obtain ⟨a, cap, rfl, hcap, hmx⟩ := RdS.shape h
  unfold maxLen at hmx
  have HH := Lib.hid h
  clear h
  go_enter Try.func16, Try.ntmps16
  go_wp2_with (first | (go_at_call 11; refine (new_ok n h1 h2 _).mono ?_; rintro e w1 ⟨D, G, B, rfl, hp, hlp, k1⟩; have HP := Lib.hid hp; have HLP := Lib.hid hlp; have K1 := Lib.hid k1; clear hp hlp k1) | (go_at_call 12; refine (rnew_ok n h1 h2 _).mono ?_; rintro e w2 ⟨R, Q, rfl, hs, hls, k2⟩; have HB : Hid (Both w w2 D G B R Q (Dk.new n)) := Lib.hid (Both.start HP.out HLP.out K1.out hs hls k2); clear hs hls k2))
  go_loopw [35] (fun i wr => ∃ k : Nat, k ≤ l.length ∧ i = .int .i64 k ∧ Both w wr D G B R Q ((Dk.new n).plays (l.take k))) (fun i _ => l.length - (intOf i).toNat)
  case atStart => exact ⟨0, Nat.zero_le _, rfl, HB.out⟩
  case round =>
    obtain ⟨k, hk, rfl, hB⟩ := hrel
    have HK := Lib.hid hB
    clear hB
    by_cases hlt : k < l.length
    · have hki : (k : Int) < l.length := by omega
      obtain ⟨x, hx⟩ := getAt hlt
      obtain ⟨hf1, hf2⟩ := hf x (List.mem_of_getElem? hx)
      obtain ⟨b, off, e1, _, cs, ⟨pa, pc, rfl, hrd, hxi⟩, _, hc⟩ := HH.out.at hx
      subst e1
      have x0 := HK.out.k.cell (hc 0 _ rfl) (fun x => x)
      have x1 := HK.out.k.cell (hc 1 _ rfl) (fun x => x)
      have x2 := HK.out.k.cell (hc 2 _ rfl) (fun x => x)
      have x3 := HK.out.k.cell (hc 3 _ rfl) (fun x => x)
      have x4 := HK.out.k.cell (hc 4 _ rfl) (fun x => x)
      simp only [Nat.add_zero] at x0
      unfold strV at x3
      have HX := Lib.hid hx
      have HRD := Lib.hid hrd
      clear hc hrd hx hlt
      go_wp2_with fail
      have HA := Lib.hid (HK.out.kept0 ((Kept.refl NoM _).alloc (.cells #[.int .i64 x.kind, .int .i64 x.i, .int .i64 x.k, strV x.text, .slice pa x.picks.length pc] 34)))
      have hblk := blk_new wr (.cells #[.int .i64 x.kind, .int .i64 x.i, .int .i64 x.k, strV x.text, .slice pa x.picks.length pc] 34)
      unfold strV at HA hblk
      generalize hwa : wr.alloc _ = wa at HA hblk ⊢
      have hnb : ¬ InD D G B wr.heap.size := HK.out.lts 0
      refine (do_ok x pa pc hf1 hf2 hxi D G B wa HA.out.p (HA.out.picksD HRD.out)).mono ?_
      rintro e w3 ⟨rfl, hp3, k3⟩
      have hb3 := k3.blk hblk hnb
      have y0 := cell_blk hb3 0 _ rfl
      have y1 := cell_blk hb3 1 _ rfl
      have y2 := cell_blk hb3 2 _ rfl
      have y3 := cell_blk hb3 3 _ rfl
      have y4 := cell_blk hb3 4 _ rfl
      have hs3 := HA.out.spec k3
      have hq3 := HA.out.picksS k3 HRD.out
      have HP3 := Lib.hid hp3
      have HS3 := Lib.hid hs3
      have HQ3 := Lib.hid hq3
      have K3 := Lib.hid k3
      clear hp3 hs3 hq3 k3 hblk hb3
      go_wp2_with (go_at_call 14; refine (rdo_ok x pa pc hf1 hf2 hxi R Q _ HS3.out HQ3.out).mono ?_; rintro e w4 ⟨rfl, hs4, k4⟩; have HB4 := Lib.hid (HA.out.playD HP3.out K3.out hs4 k4); clear hs4 k4)
      go_roundw
      case rel => exact ⟨k + 1, by omega, by go_num, by rw [Dk.plays_take HX.out]; exact HB4.out⟩
      case measure => simp [intOf]; omega
    · obtain rfl : k = l.length := by omega
      have f1 := decide_eq_false (show ¬ ((l.length : Nat) : Int) < l.length by omega)
      have f2 := decide_eq_false (show ¬ l.length < l.length by omega)
      go_wp2_with fail
      go_ret3
      exact ⟨D, G, B, R, Q, rfl, by have := HK.out; rwa [List.take_length] at this⟩
end Go.Proofs.Ytohijdopmokkgaa
