/- Walks: comparing rules: the program. -/
import Derived.Test.YtghgegghlefclaaKW1
import Derived.Test.YtghgegghlefclaaKV5
set_option linter.unusedVariables false
set_option linter.unusedSimpArgs false
set_option linter.unusedSectionVars false
namespace Go.Proofs.Ytghgegghlefclaa
open Go.RowKit
set_option maxHeartbeats 1000000
set_option maxRecDepth 8000
/-- an alternative: its cells -/
structure Al where
  link : Int
  msk : Nat → Int
  bts : Nat → Int
def alL (a : Al) : List Value := .int .i64 a.link :: (headL a.msk ++ headL a.bts)
def alC (a : Al) : Array Value := (alL a).toArray
@[go_sem, simp] theorem alC_size (a : Al) : (alC a).size = 21 := rfl
def EAl (c : List Value) (a : Al) : Prop := c = alL a
def EOut (w : World) (c : List Value) (l : List Al) : Prop := ∃ a cap, c = [.slice a l.length cap] ∧ RdS w NoM 21 EAl (.slice a l.length cap) l
/-- a rule's outputs can be read -/
def OutR (w : World) (r : Ru) : Prop := ∃ xs : List (List Al), RdS w NoM 1 (EOut w) (.slice r.oa r.on r.oc) xs
theorem EOut.kept {w w' : World} {c : List Value} {l : List Al} (h : EOut w c l) (k : Kept NoM w w') : EOut w' c l := by
  obtain ⟨a, cap, h1, h2⟩ := h
  exact ⟨a, cap, h1, h2.kept k (fun _ _ x => x)⟩
theorem OutR.kept {w w' : World} {r : Ru} (h : OutR w r) (k : Kept NoM w w') : OutR w' r := by
  obtain ⟨xs, h⟩ := h
  exact ⟨xs, h.kept k (fun _ _ x => x.kept k)⟩
theorem bigAl : BigTy 123 21 := ⟨⟨_, Try.underlying123, rfl⟩, by kernel_rfl⟩
theorem al_at {w : World} {a : Option Addr} {n cap : Nat} {xs : List Al} (h : RdS w NoM 21 EAl (.slice a n cap) xs) {k : Nat} {x : Al} (hx : xs[k]? = some x) : ∃ b off, a = some ⟨b, off, none⟩ ∧ w.rangeAt b (off + k * 21) (alC x).toList := by
  obtain ⟨b, off, cs, e1, h1, rfl, _, h2⟩ := h.range hx
  exact ⟨b, off, e1, h2⟩
theorem isMod (w : World) : (isAgg 121).run Try.prog w = .ok true w := by kernel_rfl
/-- an alternative is equal to itself -/
theorem al_same (a : Al) (w : World) : (Op.equalIn 10000 123 (.agg (alC a)) (.agg (alC a))).run Try.prog w = .ok true w := by
  rw [show (10000 : Nat) = 9999 + 1 from rfl, run_equalIn_struct w 9999 123 _ _ (by kernel_rfl) (by kernel_rfl)]
  have hm : (Try.prog.fieldsOf 123).toList.map (fun f => (decide (f.name ≠ "_"), f.type, f.offset)) = [(true, 3, 0), (true, 121, 1)] := by kernel_rfl
  have hx : (alC a).extract 1 (1 + 20) = patC a.msk a.bts := by kernel_rfl
  have hp : (part 121 (alC a) 1).run Try.prog w = .ok (.agg (patC a.msk a.bts)) w := by rw [part_agg isMod (n := 20) (by kernel_rfl) (alC a) 1 w, hx]
  have h0 : (alC a)[0]? = some (.int .i64 a.link) := rfl
  have h1 : (part 3 (alC a) 0).run Try.prog w = .ok (.int .i64 a.link) w := run_part_plain w (by kernel_rfl) h0
  have he : (Op.equalIn 9999 121 (.agg (patC a.msk a.bts)) (.agg (patC a.msk a.bts))).run Try.prog w = .ok true w := by
    have hph : ∀ cs off, (part 34 cs off).run Try.prog w = .ok (.agg (cs.extract off (off + 10))) w := fun cs off => part_agg isHead (by kernel_rfl) cs off w
    have e1 : ∀ m b, (patC m b).extract 0 (0 + 10) = headC m := fun m b => rfl
    have e2 : ∀ m b, (patC m b).extract 10 (10 + 10) = headC b := fun m b => rfl
    rw [show (9999 : Nat) = 9998 + 1 from rfl, run_equalIn_struct w 9998 121 _ _ (by kernel_rfl) (by kernel_rfl)]
    have hm : (Try.prog.fieldsOf 121).toList.map (fun f => (decide (f.name ≠ "_"), f.type, f.offset)) = [(true, 34, 0), (true, 34, 10)] := by kernel_rfl
    have hs : ∀ m, sameF m m = true := fun m => ten_iff.2 (fun i _ => by simp)
    generalize (Try.prog.fieldsOf 121).toList = fs at hm ⊢
    rcases fs with _ | ⟨f1, _ | ⟨f2, _ | ⟨f3, fs⟩⟩⟩
    · cases hm
    · simp at hm
    · simp only [List.map_cons, List.map_nil, List.cons.injEq, Prod.mk.injEq, decide_eq_true_eq, and_true] at hm
      obtain ⟨⟨n1, t1, o1⟩, n2, t2, o2⟩ := hm
      simp only [Op.eqFields, n1, n2, t1, t2, o1, o2, ne_eq, not_false_eq_true, if_true, Sem.run_bind, Sem.run_ite, hph, e1, e2, Result.andThen_ok, head_eq 9996 _ _ w, hs]
      simp
    · simp at hm
  generalize (Try.prog.fieldsOf 123).toList = fs at hm ⊢
  rcases fs with _ | ⟨f1, _ | ⟨f2, _ | ⟨f3, fs⟩⟩⟩
  · cases hm
  · simp at hm
  · simp only [List.map_cons, List.map_nil, List.cons.injEq, Prod.mk.injEq, decide_eq_true_eq, and_true] at hm
    obtain ⟨⟨n1, t1, o1⟩, n2, t2, o2⟩ := hm
    simp only [Op.eqFields, n1, n2, t1, t2, o1, o2, ne_eq, not_false_eq_true, if_true, Sem.run_bind, Sem.run_ite, hp, h1, Result.andThen_ok, he, run_equalIn_int w 9998 3 .i64 .i64 _ _ Try.underlying3]
    simp
  · simp at hm
end Go.Proofs.Ytghgegghlefclaa
