/- Walks of the specification: Replace, Same. -/
import Derived.Test.YtjcmnobfdidnkaaKS2
set_option linter.unusedVariables false
set_option linter.unusedSimpArgs false
set_option linter.unusedSectionVars false
namespace Go.Proofs.Ytjcmnobfdidnkaa
open Go.RowKit
set_option maxHeartbeats 2000000
set_option maxRecDepth 4000
theorem rreplace_ok (v : Value) (l : List Pg) (hl : l.length ≤ 1000000) (hls : (streamS l).length ≤ 100000000) (R sz : Nat) (L : List Pg) (hsz : sz ≤ 100000000) (w : World) {X : Nat → Prop} (hX : ∀ i, X i → i < w.heap.size) (s : RS w R sz L X) (hv : RdS w NoM 1 EStr v l) :
    Calls Try.prog 40 #[.pointer (some ⟨R, 0, none⟩), v] w fun e w' => e = .returned (.int .i64 (rrepE sz l)) ∧ RS w' R sz (rrepL sz L l) X ∧ Kept (fun i => i = R) w w' := by
  have HS := Lib.hid s
  have HX := Lib.hid hX
  clear hX
  obtain ⟨va, vc, rfl, _, _⟩ := hv.shape
  have HV := Lib.hid hv
  obtain ⟨ra, rc, hR, hrd⟩ := s.ex
  have HR := Lib.hid hR
  have SC : Hid (∀ w', Kept NoM w w' → w'.cell? ⟨R, 0, none⟩ = some (.int .i64 sz)) := Lib.hid (fun w' k => k.cell (cell_blk hR 0 _ rfl) (fun x => x))
  have US : Hid (∀ wx, Kept NoM w wx → Calls Try.prog 19 #[.slice va l.length vc] wx fun e w' => e = .returned (.int .i64 (streamS l).length) ∧ w' = wx) := Lib.hid (fun wx k => (rused_ok _ l NoM wx (HV.out.kept k.of_no (fun _ _ x => x)) hl hls).mono fun e w' ⟨q1, q2⟩ => ⟨q1, q2.symm⟩)
  have L1 : Hid (longL l = true → rrepE sz l = 2 ∧ rrepL sz L l = L) := Lib.hid (fun hh => by unfold rrepL rrepE; simp [hh])
  have L2 : Hid (longL l = false → sz < (streamS l).length → rrepE sz l = 12 ∧ rrepL sz L l = L) := Lib.hid (fun hh h9 => by unfold rrepL rrepE; simp [hh, h9])
  have L3 : Hid (longL l = false → ¬ sz < (streamS l).length → rrepE sz l = 0 ∧ rrepL sz L l = l) := Lib.hid (fun hh h9 => by unfold rrepL rrepE; simp [hh, h9])
  clear s hv hR hrd
  go_enter Try.func40, Try.ntmps40
  go_wp2_with fail
  go_loopw [5] (fun i wr => ∃ k : Nat, k ≤ l.length ∧ i = .int .i64 k ∧ (∀ (i : Nat) (x : Pg), i < k → l[i]? = some x → x.length ≤ 8000) ∧ Kept NoM w wr) (fun i _ => l.length - (intOf i).toNat)
  case atStart => exact ⟨0, Nat.zero_le _, rfl, fun i x hi => absurd hi (Nat.not_lt_zero _), Kept.refl _ _⟩
  case round =>
    obtain ⟨k, hk, rfl, hS, hK⟩ := hrel
    have HH := Lib.hid hS
    have HK := Lib.hid hK
    clear hS hK
    by_cases hlt : k < l.length
    · have hki : (k : Int) < l.length := by omega
      obtain ⟨x, hx⟩ := getAt hlt
      obtain ⟨b, off, e1, _, cs, rfl, _, hc⟩ := (HV.out.kept HK.out (fun _ _ x => x)).at hx
      subst e1
      have x0 := hc 0 _ rfl
      simp only [Nat.mul_one, Nat.add_zero] at x0
      unfold strV at x0
      have hxz : (⟨x.toArray⟩ : ByteArray).size = x.length := by simp [ByteArray.size]
      have HX := Lib.hid hx
      clear hc hx
      by_cases hlong : 8000 < x.length
      · have f1 : ((x.length : Nat) : Int) > 8000 := by omega
        go_wp2_with fail
        go_ret
        obtain ⟨r1, r2⟩ := L1.out (longL_at HX.out hlong)
        rw [r1, r2]
        exact ⟨rfl, HS.out.kept0 HK.out, HK.out.of_no⟩
      · have f1 : ¬ ((x.length : Nat) : Int) > 8000 := by omega
        go_wp2_with fail
        go_roundw
        case rel =>
          refine ⟨k + 1, by omega, by go_num, fun i y hi hy => ?_, HK.out⟩
          by_cases hik : i = k
          · subst hik
            have := HX.out.symm.trans hy
            cases this
            omega
          · exact HH.out i y (by omega) hy
        case measure => simp [intOf]; omega
    · obtain rfl : k = l.length := by omega
      have f1 := decide_eq_false (show ¬ ((l.length : Nat) : Int) < l.length by omega)
      have f2 := decide_eq_false (show ¬ l.length < l.length by omega)
      have HL := Lib.hid (longL_no (l := l) (fun i x hx => HH.out i x (List.getElem?_eq_some_iff.1 hx).1 hx))
      have y0 := SC.out wr HK.out
      clear HH
      generalize (streamS l).length = u at *
      by_cases hfull : sz < u
      · obtain ⟨r1, r2⟩ := L2.out HL.out hfull
        have HQ := Lib.hid (And.intro r1 r2)
        clear r1 r2
        have f3 : (u : Int) > (sz : Int) := by omega
        go_wp2_with fail
        go_quiet (first | (go_at_call 19; refine Calls.quiet_of_same (US.out _ (HK.out.drewN _))))
        go_wp2_with fail
        go_ret
        rw [HQ.out.1, HQ.out.2]
        exact ⟨rfl, HS.out.kept0 (HK.out.drewN _), (HK.out.drewN _).of_no⟩
      · obtain ⟨r1, r2⟩ := L3.out HL.out hfull
        have HQ := Lib.hid (And.intro r1 r2)
        clear r1 r2
        have f3 : ¬ (u : Int) > (sz : Int) := by omega
        go_wp2_with fail
        go_quiet (first | (go_at_call 19; refine Calls.quiet_of_same (US.out _ (HK.out.drewN _))))
        have HD := Lib.hid (HV.out.kept (HK.out.drewN nq) (fun _ _ x => x))
        go_wp2_with (first | (at_builtin; refine wpList_append_S (M := NoM) rfl (.tmp 27) (.tmp 28) 42 rfl 16 tyStrs _ rfl (OwnS.nil _ _ _ _) _ rfl HD.out eStr_one 0 l.length rfl rfl (by unfold maxLen; omega) (by omega) ?_; rw [Nat.zero_add]; intro a2 cap2 w2 O2 p1 p2 p3; have A2 := Lib.hid (And.intro p1 (And.intro p2 p3)); have kk := (HK.out.drewN nq).trans' (M' := fun _ => False) (p2.mono (fun _ _ h => by cases h)) (fun _ _ h => h); obtain ⟨w9, e9, l9, h9⟩ := one_opn (kk.blk HR.out (fun x => x)); rw [e9]; have K9 := Lib.hid kk; clear p1 p2 p3 e9 kk))
        go_ret
        rw [HQ.out.1, HQ.out.2]
        refine ⟨rfl, ⟨a2, cap2, ?_, ?_⟩, ?_⟩
        · exact putB_blk w9 R #[.int .i64 sz, .slice a2 l.length cap2] 45 l9
        · have q1 : RdS w9 (fun i => i = R ∨ X i) 1 EStr (.slice a2 l.length cap2) ([] ++ l) := by
            rw [h9.out]
            refine A2.out.1.rd (fun g hg e => ?_)
            have hlt := HS.out.lt
            have hg9 : g < w.heap.size := by rcases e with e | e; omega; exact HX.out g e
            have := newO_ge A2.out.2.2 hg
            have := HK.out.size
            simp at *; omega
          exact q1.kept (Kept.putM (M := fun i => i = R ∨ X i) (Kept.refl _ w9) (.inl rfl) #[.int .i64 sz, .slice a2 l.length cap2] 45) (fun _ _ x => x)
        · exact Kept.putM (M := fun i => i = R) (by rw [h9.out]; exact K9.out.of_no) rfl _ _
theorem bytes_ne {x y : Pg} (h : x ≠ y) : ¬ (⟨x.toArray⟩ : ByteArray) = ⟨y.toArray⟩ := fun e => h (by cases e; rfl)
theorem bytes_beq (a b : ByteArray) : (a == b) = true ↔ a = b := by
  cases a; cases b
  constructor
  · intro h; exact congrArg _ (eq_of_beq (α := Array UInt8) h)
  · intro h; cases h; exact beq_self_eq_true (α := Array UInt8) _
theorem rsame_ok (a b : Value) (xs ys : List Pg) (w : World) (ha : RdS w NoM 1 EStr a xs) (hb : RdS w NoM 1 EStr b ys) (hn : xs.length ≤ 1000000) (hm : ys.length ≤ 1000000) : Calls Try.prog 15 #[a, b] w fun e w' => e = .returned (.bool (decide (xs = ys))) ∧ ∃ n, w' = w.drewN n := by
  obtain ⟨aa, ac, rfl, _, _⟩ := ha.shape
  obtain ⟨ba, bc, rfl, _, _⟩ := hb.shape
  have HA := Lib.hid ha
  have HB := Lib.hid hb
  clear ha hb
  by_cases hlen : xs.length = ys.length
  · have FF : Hid (∀ (k : Nat) (x y : Pg), xs[k]? = some x → ys[k]? = some y → x ≠ y → decide (xs = ys) = false) := Lib.hid (fun k x y h1 h2 h3 => decide_eq_false (fun e => h3 (by rw [e, h2] at h1; exact (Option.some.inj h1).symm)))
    have TT : Hid ((∀ i : Nat, i < xs.length → xs[i]? = ys[i]?) → decide (xs = ys) = true) := Lib.hid (fun h => decide_eq_true (List.ext_getElem? (fun i => by
      by_cases hi : i < xs.length
      · exact h i hi
      · rw [List.getElem?_eq_none (by omega), List.getElem?_eq_none (by omega)])))
    have HLN := Lib.hid hlen
    rw [← hlen]
    clear hlen hm
    go_enter Try.func15, Try.ntmps15
    go_wp2_with fail
    go_loopw [5] (fun i wr => ∃ k n : Nat, k ≤ xs.length ∧ i = .int .i64 k ∧ (∀ i : Nat, i < k → xs[i]? = ys[i]?) ∧ wr = w.drewN n) (fun i _ => xs.length - (intOf i).toNat)
    case atStart => exact ⟨0, 0, Nat.zero_le _, rfl, fun i hi => absurd hi (Nat.not_lt_zero _), rfl⟩
    case round =>
      obtain ⟨k, n, hk, rfl, hp, rfl⟩ := hrel
      have HP := Lib.hid hp
      clear hp
      by_cases hlt : k < xs.length
      · have hki : (k : Int) < xs.length := by omega
        obtain ⟨x, hx⟩ := getAt hlt
        obtain ⟨y, hy⟩ := getAt (xs := ys) (k := k) (by rw [← HLN.out]; exact hlt)
        obtain ⟨b1, o1, e1, _, cs, rfl, _, h1⟩ := HA.out.at hx
        subst e1
        have hB2 := HB.out
        rw [← HLN.out] at hB2
        obtain ⟨b2, o2, e2, _, cs, rfl, _, h2⟩ := hB2.at hy
        subst e2
        have x1 := h1 0 _ rfl
        have x2 := h2 0 _ rfl
        simp only [Nat.mul_one, Nat.add_zero] at x1 x2
        have HX := Lib.hid hx
        have HY := Lib.hid hy
        clear h1 h2 hx hB2 hy
        unfold strV at x1 x2
        by_cases hxy : x = y
        · subst hxy
          go_wp2_with fail
          go_quiet (fail)
          go_wp2_with fail
          go_roundw
          case rel =>
            refine ⟨k + 1, _, by omega, by go_num, fun i hi => ?_, rfl⟩
            by_cases hik : i = k
            · subst hik; exact HX.out.trans HY.out.symm
            · exact HP.out i (by omega)
          case measure => simp [intOf]; omega
        · have f1 := bytes_ne hxy
          have f3 : ((⟨x.toArray⟩ : ByteArray) == ⟨y.toArray⟩) = false := by
            cases q : ((⟨x.toArray⟩ : ByteArray) == ⟨y.toArray⟩) with
            | false => rfl
            | true => exact absurd ((bytes_beq _ _).1 q) f1
          have f2 : ((⟨x.toArray⟩ : ByteArray) != ⟨y.toArray⟩) = true := by unfold bne; rw [f3]; rfl
          have f4 : (x == y) = false := beq_eq_false_iff_ne.2 hxy
          have HF := Lib.hid (FF.out k x y HX.out HY.out hxy)
          clear hxy
          go_wp2_with fail
          go_quiet (fail)
          go_wp2_with fail
          go_ret
          rw [HF.out]
          exact ⟨rfl, n + nq, by simp [World.drewN, Nat.add_assoc]⟩
      · obtain rfl : k = xs.length := by omega
        have f1 := decide_eq_false (show ¬ ((xs.length : Nat) : Int) < xs.length by omega)
        have f2 := decide_eq_false (show ¬ xs.length < xs.length by omega)
        have HT := Lib.hid (TT.out HP.out)
        clear HP
        go_wp2_with fail
        go_ret
        rw [HT.out]
        exact ⟨rfl, n, rfl⟩
  · have HF := Lib.hid (decide_eq_false (show ¬ xs = ys from fun e => hlen (by rw [e])))
    have f1 : ¬ (xs.length : Int) = ys.length := by omega
    rw [HF.out]
    clear hlen
    go_enter Try.func15, Try.ntmps15
    go_wp2_with fail
    go_ret
    exact ⟨rfl, 0, rfl⟩
end Go.Proofs.Ytjcmnobfdidnkaa
