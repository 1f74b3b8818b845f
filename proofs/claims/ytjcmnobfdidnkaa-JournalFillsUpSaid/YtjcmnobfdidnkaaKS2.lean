/- Walks of the specification: its journal. -/
import Derived.Test.YtjcmnobfdidnkaaKS1
import Derived.Test.YtjcmnobfdidnkaaKD0
set_option linter.unusedVariables false
set_option linter.unusedSimpArgs false
set_option linter.unusedSectionVars false
namespace Go.Proofs.Ytjcmnobfdidnkaa
open Go.RowKit
set_option maxHeartbeats 2000000
set_option maxRecDepth 4000
theorem one_opn {W : World} {a : Nat} {ca : Array Value} {ta : TypeId} (hA : W.heap[a]? = some (.cells ca ta (0, 0))) : ∃ w9, W = putB w9 a ca ta ∧ a < w9.heap.size ∧ Hid (w9 = W) := ⟨W, putB_self hA, lt_of_block hA, Lib.hid rfl⟩
theorem newO_ge {w : World} {O : Option Nat} (h : NewO w none O) {g : Nat} (e : O = some g) : w.heap.size ≤ g := by
  rcases h with h | ⟨g2, h, h2⟩
  · rw [e] at h; cases h
  · rw [e] at h; cases h; exact h2
/-- the specification's journal in block R; its list lies outside X -/
structure RS (w : World) (R : Nat) (sz : Nat) (L : List Pg) (X : Nat → Prop) : Prop where
  ex : ∃ a cap, w.heap[R]? = some (.cells #[.int .i64 sz, .slice a L.length cap] 45 (0, 0)) ∧ RdS w (fun i => i = R ∨ X i) 1 EStr (.slice a L.length cap) L
theorem RS.kept {w w' : World} {R sz : Nat} {L : List Pg} {X M : Nat → Prop} (s : RS w R sz L X) (k : Kept M w w') (hM : ∀ i, i < w.heap.size → ¬ M i) : RS w' R sz L X := by
  obtain ⟨a, cap, h1, h2⟩ := s.ex
  have k0 : Kept NoM w w' := k.mono (fun i hi h => hM i hi h)
  exact ⟨a, cap, k0.blk h1 (fun x => x), h2.kept k0.of_no (fun _ _ x => x)⟩
theorem RS.kept0 {w w' : World} {R sz : Nat} {L : List Pg} {X : Nat → Prop} (s : RS w R sz L X) (k : Kept NoM w w') : RS w' R sz L X := s.kept k (fun _ _ x => x)
/-- what the others do -/
theorem RS.beside {w w' : World} {R sz : Nat} {L : List Pg} {X : Nat → Prop} (s : RS w R sz L X) (k : Kept X w w') (hR : ¬ X R) : RS w' R sz L X := by
  obtain ⟨a, cap, h1, h2⟩ := s.ex
  exact ⟨a, cap, k.blk h1 hR, h2.kept (k.mono fun i _ h => .inr h) (fun _ _ x => x)⟩
theorem RdS.away {α : Type} {w : World} {M M' : Nat → Prop} {sz : Nat} {E : List Value → α → Prop} {v : Value} {xs : List α} (h : RdS w M sz E v xs) (hsz : 0 < sz) (hm : ∀ i, i < w.heap.size → M' i → M i) : RdS w M' sz E v xs := h.mono hm hsz (fun _ _ x => x)
theorem RS.turn {w : World} {R sz : Nat} {L : List Pg} {X X' : Nat → Prop} (s : RS w R sz L X) (h : ∀ i, i < w.heap.size → X' i → X i) : RS w R sz L X' := by
  obtain ⟨a, cap, h1, h2⟩ := s.ex
  exact ⟨a, cap, h1, h2.away (by omega) (fun i hi x => by rcases x with x | x; exact .inl x; exact .inr (h i hi x))⟩
theorem RS.lt {w : World} {R sz : Nat} {L : List Pg} {X : Nat → Prop} (s : RS w R sz L X) : R < w.heap.size := by obtain ⟨_, _, h, _⟩ := s.ex; exact lt_of_block h
theorem rnew_bad (n : Int) (h : n < 4) (w : World) : Calls Try.prog 12 #[.int .i64 n] w fun e w' => e = .returned (.tuple #[.pointer none, .int .i64 1]) ∧ w = w' := by
  go_enter Try.func12, Try.ntmps12
  go_wp2_with fail
  go_ret2
  exact ⟨rfl, rfl⟩
theorem rnew_ok (X : Nat → Prop) (n : Nat) (h : 4 ≤ n) (h2 : n ≤ 4096) (w : World) : Calls Try.prog 12 #[.int .i64 n] w fun e w' => ∃ R, e = .returned (.tuple #[.pointer (some ⟨R, 0, none⟩), .int .i64 0]) ∧ RS w' R ((n - 2) / 2 * 128) [] X ∧ w.heap.size ≤ R ∧ Kept NoM w w' := by
  have f1 : ¬ (n : Int) < 4 := by omega
  have q1 : IntKind.i64.wrap ((n : Int) - 2) = (n : Int) - 2 := IntWalk.i64_in _ (by omega)
  have q2 : IntKind.i64.wrap (((n : Int) - 2) / 2) = ((n : Int) - 2) / 2 := IntWalk.i64_in _ (by omega)
  have q3 : IntKind.i64.wrap (((n : Int) - 2) / 2 * 128) = (((n - 2) / 2 * 128 : Nat) : Int) := by rw [IntWalk.i64_in _ (by omega)]; omega
  have hb := blk_new w (.cells #[.int .i64 (((n - 2) / 2 * 128 : Nat) : Int), .slice none 0 0] 45)
  generalize (n - 2) / 2 * 128 = sz at *
  have f2 : (0 : Int) ≤ (n : Int) - 2 := by omega
  go_enter Try.func12, Try.ntmps12
  go_wp2_with fail
  go_ret2
  exact ⟨w.heap.size, rfl, ⟨none, 0, hb, RdS.nil _ _ _ _⟩, Nat.le_refl _, (Kept.refl _ _).alloc _⟩
theorem rappend_ok (x : Pg) (hx : x.length ≤ 1000000) (R sz : Nat) (L : List Pg) (hL : L.length ≤ 1000000) (hS : (streamS L).length ≤ 100000000) (hsz : sz ≤ 100000000) (w : World) {X : Nat → Prop} (hX : ∀ i, X i → i < w.heap.size) (s : RS w R sz L X) :
    Calls Try.prog 39 #[.pointer (some ⟨R, 0, none⟩), .string ⟨x.toArray⟩] w fun e w' => e = .returned (.tuple #[.int .i64 (rappI sz L x), .int .i64 (rappE sz L x)]) ∧ RS w' R sz (rappL sz L x) X ∧ Kept (fun i => i = R) w w' := by
  have hz : (⟨x.toArray⟩ : ByteArray).size = x.length := by simp [ByteArray.size]
  have HS := Lib.hid s
  have HX := Lib.hid hX
  clear hX
  obtain ⟨va, vc, hR, hrd⟩ := s.ex
  have HR := Lib.hid (And.intro hR hrd)
  have y0 := cell_blk hR 0 _ rfl
  have y1 := cell_blk hR 1 _ rfl
  by_cases h1 : 8000 < x.length
  · have e1 : rappE sz L x = 2 := by unfold rappE; rw [if_pos h1]
    have e2 : rappL sz L x = L := by unfold rappL; rw [e1]; rfl
    have e3 : rappI sz L x = 0 := by unfold rappI; rw [e1]; rfl
    rw [e1, e2, e3]
    have f1 : ((x.length : Nat) : Int) > 8000 := by omega
    clear e1 e2 e3 hR hrd s
    go_enter Try.func39, Try.ntmps39
    go_wp2_with fail
    go_ret2
    exact ⟨rfl, HS.out, Kept.refl _ _⟩
  · have US : Hid (∀ wx, Kept NoM w wx → Calls Try.prog 19 #[.slice va L.length vc] wx fun e w' => e = .returned (.int .i64 (streamS L).length) ∧ w' = wx) := Lib.hid (fun wx k => (rused_ok _ L (fun i => i = R ∨ X i) wx (HR.out.2.kept k.of_no (fun _ _ x => x)) hL hS).mono fun e w' ⟨q1, q2⟩ => ⟨q1, q2.symm⟩)
    have f1 : ¬ ((x.length : Nat) : Int) > 8000 := by omega
    by_cases h2 : sz < (streamS L).length + (2 + x.length)
    · have e1 : rappE sz L x = 12 := by unfold rappE; rw [if_neg h1, if_pos h2]
      have e2 : rappL sz L x = L := by unfold rappL; rw [e1]; rfl
      have e3 : rappI sz L x = 0 := by unfold rappI; rw [e1]; rfl
      rw [e1, e2, e3]
      generalize (streamS L).length = u at *
      have q1 : IntKind.i64.wrap ((u : Int) + 2) = (u : Int) + 2 := IntWalk.i64_in _ (by omega)
      have q2 : IntKind.i64.wrap ((u : Int) + 2 + x.length) = (u : Int) + 2 + x.length := IntWalk.i64_in _ (by omega)
      have f2 : (u : Int) + 2 + x.length > sz := by omega
      clear e1 e2 e3 hR hrd s
      go_enter Try.func39, Try.ntmps39
      go_wp2_with fail
      go_quiet (first | (go_at_call 19; refine Calls.quiet_of_same (US.out _ ((Kept.refl NoM w).drewN _))))
      go_wp2_with fail
      go_ret2
      exact ⟨rfl, HS.out.kept0 ((Kept.refl NoM w).drewN _), (Kept.refl _ w).drewN _⟩
    · have e1 : rappE sz L x = 0 := by unfold rappE; rw [if_neg h1, if_neg h2]
      have e2 : rappL sz L x = L ++ [x] := by unfold rappL; rw [e1]; rfl
      have e3 : rappI sz L x = L.length := by unfold rappI; rw [e1]; rfl
      rw [e1, e2, e3]
      generalize (streamS L).length = u at *
      have q1 : IntKind.i64.wrap ((u : Int) + 2) = (u : Int) + 2 := IntWalk.i64_in _ (by omega)
      have q2 : IntKind.i64.wrap ((u : Int) + 2 + x.length) = (u : Int) + 2 + x.length := IntWalk.i64_in _ (by omega)
      have q3 : IntKind.i64.wrap (((L.length + 1 : Nat) : Int) - 1) = L.length := by rw [IntWalk.i64_in _ (by omega)]; omega
      have f2 : ¬ (u : Int) + 2 + x.length > sz := by omega
      clear e1 e2 e3 hR hrd s
      go_enter Try.func39, Try.ntmps39
      go_wp2_with fail
      go_quiet (first | (go_at_call 19; refine Calls.quiet_of_same (US.out _ ((Kept.refl NoM w).drewN _))))
      have rd0 : RdS (w.drewN nq) (fun i => i = R ∨ X i) 1 EStr (.slice va L.length vc) L := HR.out.2.kept ((Kept.refl _ w).drewN _) (fun _ _ x => x)
      have HD := Lib.hid rd0
      clear rd0
      go_wp2_with (first | (at_builtin; refine wpList_append_S (M := fun i => i = R ∨ X i) rfl (.tmp 24) (.tmp 28) 42 rfl 16 tyStrs _ rfl (OwnS.nil _ _ _ _) _ rfl HD.out eStr_one 0 L.length rfl rfl (by unfold maxLen; omega) (by omega) ?_; rw [Nat.zero_add]; intro a1 cap1 w1 O1 p1 p2 p3; have A1 := Lib.hid (And.intro p1 (And.intro p2 p3)); have b1 := ((Kept.refl NoM w).drewN nq).trans' (M' := fun _ => False) (p2.mono (fun _ _ h => by cases h)) (fun _ _ h => h); have B1 := Lib.hid b1; have o1 : OwnS (w1.alloc (.cells #[.string ⟨x.toArray⟩] 9)) O1 9 1 EStr (.slice a1 L.length cap1) ([] ++ L) := p1.kept ((Kept.refl NoM _).alloc _) (fun _ _ x => x) (fun _ _ x => x); have s1 : RdS (w1.alloc (.cells #[.string ⟨x.toArray⟩] 9)) NoM 1 EStr (.slice (some ⟨w1.heap.size, 0, none⟩) 1 1) [x] := one_str (blk_new _ _); have S1 := Lib.hid (And.intro o1 s1); clear p1 p2 p3 b1 o1 s1) | (at_builtin; refine wpList_append_S (M := NoM) rfl (.tmp 31) (.tmp 33) 42 rfl 16 tyStrs _ rfl S1.out.1 _ rfl S1.out.2 eStr_one L.length 1 rfl rfl (by unfold maxLen; omega) (by omega) ?_; intro a2 cap2 w2 O2 p1 p2 p3; have A2 := Lib.hid (And.intro p1 (And.intro p2 p3)); have kk := B1.out.trans' (((Kept.refl NoM w1).alloc _).of_no.trans' p2 (fun i _ h => h)) (fun i hi e => absurd (newO_ge A1.out.2.2 e.symm) (by simp; omega)); obtain ⟨w9, e9, l9, h9⟩ := one_opn (kk.blk HR.out.1 (fun x => x)); rw [e9]; have K9 := Lib.hid kk; clear p1 p2 p3 e9 kk))
      go_ret2
      refine ⟨rfl, ⟨a2, cap2, ?_, ?_⟩, ?_⟩
      · have := putB_blk w9 R #[.int .i64 sz, .slice a2 (L.length + 1) cap2] 45 l9
        rw [List.length_append]; exact this
      · have q1 : RdS w9 (fun i => i = R ∨ X i) 1 EStr (.slice a2 (L.length + 1) cap2) ([] ++ L ++ [x]) := by
          rw [h9.out]
          refine A2.out.1.rd (fun g hg e => ?_)
          have hlt := HS.out.lt
          have hg9 : g < w.heap.size := by rcases e with e | e; omega; exact HX.out g e
          rcases A2.out.2.2 with h8 | ⟨g3, h8, h10⟩
          · have := newO_ge A1.out.2.2 (h8.symm.trans hg); simp at this; omega
          · rw [hg] at h8; cases h8; have := B1.out.size; simp at h10; omega
        have q2 := q1.kept (Kept.putM (M := fun i => i = R ∨ X i) (Kept.refl _ w9) (.inl rfl) #[.int .i64 sz, .slice a2 (L.length + 1) cap2] 45) (fun _ _ x => x)
        rw [List.length_append]; exact q2
      · exact Kept.putM (M := fun i => i = R) (by rw [h9.out]; exact K9.out.of_no) rfl _ _
end Go.Proofs.Ytjcmnobfdidnkaa
