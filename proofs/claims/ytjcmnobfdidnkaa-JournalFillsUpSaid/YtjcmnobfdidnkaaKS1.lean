/- Walks of the specification: texts, lists of texts, bytes in use. -/
import Derived.Test.YtjcmnobfdidnkaaKJ16
set_option linter.unusedVariables false
set_option linter.unusedSimpArgs false
set_option linter.unusedSectionVars false
namespace Go.Proofs.Ytjcmnobfdidnkaa
open Go.RowKit
set_option maxHeartbeats 2000000
set_option maxRecDepth 4000
/-- a call of a script -/
structure Jo where
  kind : Int
  n : Int
  k : Int
  fill : UInt8
def Jo.text (o : Jo) : Pg := List.replicate o.n.toNat o.fill
def Jo.texts (o : Jo) : List Pg := List.replicate o.k.toNat o.text
def joC (o : Jo) : Array Value := #[.int .i64 o.kind, .int .i64 o.n, .int .i64 o.k, .int .u8 o.fill.toNat]
def EB (c : List Value) (x : UInt8) : Prop := c = [byteV x]
theorem eB_one : ∀ c x, EB c x → ∀ u ∈ c, u.oneCell' = true := by rintro c x rfl u hu; simp at hu; subst hu; rfl
theorem tyBytes : SlTy Try.prog 91 5 1 1 := SlTy.of (.int .u8 0) (by kernel_rfl) (by kernel_rfl) rfl (by omega)
theorem one_byte {w : World} {b : Nat} {x : UInt8} (hb : w.heap[b]? = some (.cells #[.int .u8 x.toNat] 5 (0, 0))) : RdS w NoM 1 EB (.slice (some ⟨b, 0, none⟩) 1 1) [x] := by
  refine ⟨_, 1, rfl, Nat.le_refl _, by decide, .inr ⟨b, 0, rfl, fun i y hy => ⟨fun x => x, ?_⟩⟩⟩
  match i with
  | 0 =>
    cases hy
    refine ⟨_, rfl, rfl, fun j u hu => ?_⟩
    match j with
    | 0 =>
      cases hu
      exact cell_blk hb 0 _ rfl
    | j + 1 => simp at hu
  | i + 1 => simp at hy
theorem conv_any (w : World) {M : Nat → Prop} {v : Value} {p : Pg} (h : RdS w M 1 EB v p) : (convert 91 9 v).run Try.prog w = .ok (.string ⟨p.toArray⟩) w := by
  obtain ⟨a, cap, rfl, h1, h2⟩ := h.shape
  cases a with
  | none =>
    obtain ⟨_, hcc, ha⟩ := h.addr
    rcases ha with ⟨hx, h0⟩ | ⟨b, off, e⟩
    · subst hx; subst h0
      kernel_rfl
    · cases e
  | some A =>
    obtain ⟨_, hcc, ha⟩ := h.addr
    rcases ha with ⟨hx, h0⟩ | ⟨b, off, e⟩
    · subst hx; subst h0
      kernel_rfl
    · cases e
      refine conv_page 91 5 9 Try.underlying91 Try.underlying5 Try.underlying9 w b off _ cap p rfl (fun j u hu => ?_)
      have hu2 : ∃ x, p[j]? = some x ∧ u = byteV x := by
        unfold pgCells at hu
        rw [List.getElem?_map] at hu
        cases hp : p[j]? with
        | none => rw [hp] at hu; cases hu
        | some x => rw [hp] at hu; cases hu; exact ⟨x, rfl, rfl⟩
      obtain ⟨x, hx, rfl⟩ := hu2
      obtain ⟨b2, o2, e2, _, cs, rfl, _, hc⟩ := h.at hx
      cases e2
      have := hc 0 _ rfl
      simpa using this
theorem take_rep {α : Type} (n k : Nat) (x : α) (h : k < n) : List.replicate (k + 1) x = List.replicate k x ++ [x] := List.replicate_succ'
theorem text5_ok (o : Jo) (hn : o.n ≤ 100000) (w : World) : Calls Try.prog 23 #[.agg (joC o)] w fun e w' => e = .returned (.string ⟨o.text.toArray⟩) ∧ Kept NoM w w' := by
  obtain ⟨kd, n, kk, c⟩ := o
  simp only at hn
  unfold joC Jo.text
  simp only
  have CV := Lib.hid (fun (wx : World) (v : Value) (m : Nat) (h : RdS wx NoM 1 EB v (List.replicate m c)) => conv_any wx h)
  go_enter Try.func23, Try.ntmps23
  go_wp2_with fail
  have hB0 : (w.alloc (.cells #[.int .i64 kd, .int .i64 n, .int .i64 kk, .int .u8 c.toNat] 38)).heap[w.heap.size]? = some (.cells #[.int .i64 kd, .int .i64 n, .int .i64 kk, .int .u8 c.toNat] 38 (0, 0)) := blk_new _ _
  have K0 : Kept NoM w (w.alloc (.cells #[.int .i64 kd, .int .i64 n, .int .i64 kk, .int .u8 c.toNat] 38)) := (Kept.refl _ _).alloc _
  go_loopw [3, 4] (fun v i wr => ∃ k : Nat, (k : Int) ≤ max n 0 ∧ i = .int .i64 k ∧ (∃ a cap O, v = .slice a k cap ∧ OwnS wr O 5 1 EB (.slice a k cap) (List.replicate k c) ∧ ∀ o, O = some o → w.heap.size < o) ∧ wr.heap[w.heap.size]? = some (.cells #[.int .i64 kd, .int .i64 n, .int .i64 kk, .int .u8 c.toNat] 38 (0, 0)) ∧ Kept NoM w wr) (fun _ i _ => n.toNat - (intOf i).toNat)
  case atStart => exact ⟨0, by omega, rfl, ⟨none, 0, none, rfl, OwnS.nil _ _ _ _, fun o h => by cases h⟩, hB0, K0⟩
  case round =>
    obtain ⟨k, hk, rfl, ⟨a, cap, O, rfl, hO, hnew⟩, hb, hK⟩ := hrel
    have HK := Lib.hid hK
    have HO := Lib.hid (And.intro hO hnew)
    have HBK := Lib.hid hb
    have y1 := cell_blk hb 1 _ rfl
    have y3 := cell_blk hb 3 _ rfl
    clear hO hnew hK hb hB0 K0
    by_cases hlt : (k : Int) < n
    · have hown : OwnS (wr.alloc (.cells #[.int .u8 c.toNat] 5)) O 5 1 EB (.slice a k cap) (List.replicate k c) := HO.out.1.kept ((Kept.refl NoM _).alloc _) (fun _ _ x => x) (fun _ _ x => x)
      have hsrc : RdS (wr.alloc (.cells #[.int .u8 c.toNat] 5)) NoM 1 EB (.slice (some ⟨wr.heap.size, 0, none⟩) 1 1) [c] := one_byte (blk_new _ _)
      have HS := Lib.hid (And.intro hown hsrc)
      clear hown hsrc
      go_wp2_with (at_builtin; refine wpList_append_S (M := NoM) rfl (.tmp 11) (.tmp 14) 91 rfl 1 tyBytes _ rfl HS.out.1 _ rfl HS.out.2 eB_one k 1 List.length_replicate rfl (by unfold maxLen; omega) (by omega) ?_; intro a1 cap1 w1 O1 q1 q2 q3; have Q := Lib.hid (And.intro q1 (And.intro q2 q3)); clear q1 q2 q3)
      go_roundw
      case rel =>
        have kk1 : Kept (fun i => some i = O) wr w1 := ((Kept.refl NoM wr).alloc _).of_no.trans' Q.out.2.1 (fun i _ h => h)
        refine ⟨k + 1, by omega, by go_num, ⟨a1, cap1, O1, rfl, by rw [List.replicate_succ']; exact Q.out.1, fun o ho => ?_⟩, kk1.blk HBK.out (fun e => by have := HO.out.2 _ e.symm; omega), HK.out.trans' kk1 (fun i hi e => absurd (HO.out.2 i e.symm) (by omega))⟩
        rcases Q.out.2.2 with h9 | ⟨g, h9, h10⟩
        · exact HO.out.2 o (h9.symm.trans ho)
        · rw [ho] at h9; cases h9; have := HK.out.size; have := lt_of_block HBK.out; simp at h10; omega
      case measure => simp [intOf]; omega
    · obtain rfl : k = n.toNat := by omega
      have hcv := CV.out wr (.slice a n.toNat cap) n.toNat (HO.out.1.rd (fun _ _ x => x))
      go_wp2_with fail
      go_ret
      exact ⟨rfl, HK.out⟩
theorem texts5_ok (o : Jo) (hn : o.n ≤ 100000) (hk : o.k ≤ 100000) (w : World) : Calls Try.prog 38 #[.agg (joC o)] w fun e w' => ∃ a cap O, e = .returned (.slice a o.k.toNat cap) ∧ OwnS w' O 9 1 EStr (.slice a o.k.toNat cap) o.texts ∧ NewO w none O ∧ Kept NoM w w' := by
  have TX := Lib.hid (fun wx => text5_ok o hn wx)
  unfold Jo.texts
  generalize o.text = x at *
  obtain ⟨kd, n, kk, c⟩ := o
  simp only at hn hk
  unfold joC at *
  simp only
  go_enter Try.func38, Try.ntmps38
  go_wp2_with fail
  have hB0 : (w.alloc (.cells #[.int .i64 kd, .int .i64 n, .int .i64 kk, .int .u8 c.toNat] 38)).heap[w.heap.size]? = some (.cells #[.int .i64 kd, .int .i64 n, .int .i64 kk, .int .u8 c.toNat] 38 (0, 0)) := blk_new _ _
  have K0 : Kept NoM w (w.alloc (.cells #[.int .i64 kd, .int .i64 n, .int .i64 kk, .int .u8 c.toNat] 38)) := (Kept.refl _ _).alloc _
  go_loopw [3, 4] (fun v i wr => ∃ k : Nat, (k : Int) ≤ max kk 0 ∧ i = .int .i64 k ∧ (∃ a cap O, v = .slice a k cap ∧ OwnS wr O 9 1 EStr (.slice a k cap) (List.replicate k x) ∧ ∀ o, O = some o → w.heap.size < o) ∧ wr.heap[w.heap.size]? = some (.cells #[.int .i64 kd, .int .i64 n, .int .i64 kk, .int .u8 c.toNat] 38 (0, 0)) ∧ Kept NoM w wr) (fun _ i _ => kk.toNat - (intOf i).toNat)
  case atStart => exact ⟨0, by omega, rfl, ⟨none, 0, none, rfl, OwnS.nil _ _ _ _, fun o h => by cases h⟩, hB0, K0⟩
  case round =>
    obtain ⟨k, hk, rfl, ⟨a, cap, O, rfl, hO, hnew⟩, hb, hK⟩ := hrel
    have HK := Lib.hid hK
    have HO := Lib.hid (And.intro hO hnew)
    have HBK := Lib.hid hb
    have y0 := cell_blk hb 0 _ rfl
    have y1 := cell_blk hb 1 _ rfl
    have y2 := cell_blk hb 2 _ rfl
    have y3 := cell_blk hb 3 _ rfl
    clear hO hnew hK hb hB0 K0
    by_cases hlt : (k : Int) < kk
    · go_wp2_with (first | (go_at_call 23; refine (TX.out _).mono ?_; rintro e w1 ⟨rfl, q0⟩; have hown : OwnS (w1.alloc (.cells #[.string ⟨x.toArray⟩] 9)) O 9 1 EStr (.slice a k cap) (List.replicate k x) := HO.out.1.kept (q0.alloc _) (fun _ _ x => x) (fun _ _ x => x); have hsrc : RdS (w1.alloc (.cells #[.string ⟨x.toArray⟩] 9)) NoM 1 EStr (.slice (some ⟨w1.heap.size, 0, none⟩) 1 1) [x] := one_str (blk_new _ _); have HS := Lib.hid (And.intro hown hsrc); have Q0 := Lib.hid q0; clear hown hsrc q0) | (at_builtin; refine wpList_append_S (M := NoM) rfl (.tmp 11) (.tmp 14) 42 rfl 16 tyStrs _ rfl HS.out.1 _ rfl HS.out.2 eStr_one k 1 List.length_replicate rfl (by unfold maxLen; omega) (by omega) ?_; intro a1 cap1 w2 O1 q1 q2 q3; have Q := Lib.hid (And.intro q1 (And.intro q2 q3)); clear q1 q2 q3))
      go_roundw
      case rel =>
        have kk1 : Kept (fun i => some i = O) wr w2 := (Q0.out.alloc _).of_no.trans' Q.out.2.1 (fun i _ h => h)
        refine ⟨k + 1, by omega, by go_num, ⟨a1, cap1, O1, rfl, by rw [List.replicate_succ']; exact Q.out.1, fun o ho => ?_⟩, kk1.blk HBK.out (fun e => by have := HO.out.2 _ e.symm; omega), HK.out.trans' kk1 (fun i hi e => absurd (HO.out.2 i e.symm) (by omega))⟩
        rcases Q.out.2.2 with h9 | ⟨g, h9, h10⟩
        · exact HO.out.2 o (h9.symm.trans ho)
        · rw [ho] at h9; cases h9; have := HK.out.size; have := Q0.out.size; have := lt_of_block HBK.out; simp at h10; omega
      case measure => simp [intOf]; omega
    · obtain rfl : k = kk.toNat := by omega
      go_wp2_with fail
      go_ret
      exact ⟨a, cap, rfl, O, HO.out.1, by
        cases O with
        | none => exact .inl rfl
        | some g => exact .inr ⟨g, rfl, Nat.le_of_lt (HO.out.2 g rfl)⟩, HK.out⟩
/-- the bytes that records use -/
theorem used_len (l : List Pg) (k : Nat) (x : Pg) (h : l[k]? = some x) : (streamS (l.take (k + 1))).length = (streamS (l.take k)).length + (2 + x.length) := by
  rw [streamS_take h, List.length_append]
  show _ + (x.length + 2) = _
  omega
theorem rused_ok (v : Value) (xs : List Pg) (M : Nat → Prop) (w : World) (h : RdS w M 1 EStr v xs) (hn : xs.length ≤ 1000000) (hl : (streamS xs).length ≤ 100000000) : Calls Try.prog 19 #[v] w fun e w' => e = .returned (.int .i64 (streamS xs).length) ∧ w = w' := by
  obtain ⟨a, cap, rfl, hcap, hmx⟩ := h.shape
  have HH := Lib.hid h
  clear h
  go_enter Try.func19, Try.ntmps19
  go_wp2_with fail
  go_loopw [3, 4] (fun v i wr => ∃ k : Nat, k ≤ xs.length ∧ i = .int .i64 k ∧ v = .int .i64 (streamS (xs.take k)).length ∧ w = wr) (fun _ i _ => xs.length - (intOf i).toNat)
  case atStart => exact ⟨0, Nat.zero_le _, rfl, rfl, rfl⟩
  case round =>
    obtain ⟨k, hk, rfl, rfl, rfl⟩ := hrel
    by_cases hlt : k < xs.length
    · have hki : (k : Int) < xs.length := by omega
      obtain ⟨x, hx⟩ := getAt hlt
      obtain ⟨b, off, e1, _, cs, rfl, _, hc⟩ := HH.out.at hx
      subst e1
      have x0 := hc 0 _ rfl
      simp only [Nat.mul_one, Nat.add_zero] at x0
      unfold strV at x0
      have hxz : (⟨x.toArray⟩ : ByteArray).size = x.length := by simp [ByteArray.size]
      have HU := Lib.hid (used_len xs k x hx)
      have hle := streamS_take_le xs (k + 1)
      rw [used_len xs k x hx] at hle
      generalize (streamS (xs.take k)).length = u at *
      have q1 : IntKind.i64.wrap ((u : Int) + 2) = (u : Int) + 2 := IntWalk.i64_in _ (by omega)
      have q2 : IntKind.i64.wrap ((u : Int) + 2 + x.length) = (u : Int) + 2 + x.length := IntWalk.i64_in _ (by omega)
      clear hc hx hle
      go_wp2_with fail
      go_roundw
      case rel => exact ⟨k + 1, by omega, by go_num, by rw [HU.out]; go_num, trivial⟩
      case measure => simp [intOf]; omega
    · obtain rfl : k = xs.length := by omega
      have f1 := decide_eq_false (show ¬ ((xs.length : Nat) : Int) < xs.length by omega)
      have f2 := decide_eq_false (show ¬ xs.length < xs.length by omega)
      rw [List.take_length]
      go_wp2_with fail
      go_ret
      exact ⟨rfl, rfl⟩
end Go.Proofs.Ytjcmnobfdidnkaa
