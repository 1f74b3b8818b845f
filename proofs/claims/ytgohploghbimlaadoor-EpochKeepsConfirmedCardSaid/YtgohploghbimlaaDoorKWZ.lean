/- Walks: Timeout and Handle, whole; Propose, the refusals. -/
import Derived.Test.YtgohploghbimlaaDoorKWX
import Derived.Test.YtgohploghbimlaaDoorKWY
set_option linter.unusedVariables false
set_option linter.unusedSimpArgs false
set_option linter.unusedSectionVars false
namespace Go.Proofs.YtgohploghbimlaaDoor
open Go.RowKit
set_option maxHeartbeats 1000000
set_option maxRecDepth 4000
variable [A : Inhabited (Nat → Prop)]

theorem timeout_ok (r : Rep) (lv vv mv : Value) (w : World) (hlv : RdItems w Away lv r.log) (hvv : RdBools w Away vv r.votes) (hmv : RdInts w Away mv r.mat) (hr : Valid r) :
    Calls Tryd.prog 21 #[.agg #[.int .i64 r.id, .int .i64 r.count, .int .i64 r.epoch, .int .i64 r.voted, .int .i64 r.role, lv, .int .i64 r.conf, vv, mv]] w (Hands w (timeoutF r).1 (timeoutF r).2) := by
  by_cases h3 : r.role = 3
  · exact timeout_lead r lv vv mv w hlv hvv hmv hr h3
  · by_cases he : r.epoch ≥ 1073741824
    · exact timeout_old r lv vv mv w hlv hvv hmv h3 he
    · exact timeout_cand r lv vv mv w hlv hvv hmv hr h3 he

theorem handle_ok (r : Rep) (lv vv mv : Value) (m : Let) (iv : Value) (w : World) (hlv : RdItems w Away lv r.log) (hvv : RdBools w Away vv r.votes) (hmv : RdInts w Away mv r.mat) (hiv : RdItems w Away iv m.items) (hil : m.items.length ≤ 1000000) (hr : Valid r) :
    Calls Tryd.prog 24 #[.agg #[.int .i64 r.id, .int .i64 r.count, .int .i64 r.epoch, .int .i64 r.voted, .int .i64 r.role, lv, .int .i64 r.conf, vv, mv], .agg #[.int .i64 m.kind, .int .i64 m.src, .int .i64 m.dst, .int .i64 m.ep, .int .i64 m.pos, .int .i64 m.aep, iv, .int .i64 m.conf, .bool m.yes]] w (Hands w (handleF r m).1 (handleF r m).2) := by
  cases hf : fineF r m with
  | false => exact handle_not r lv vv mv m iv w hlv hvv hmv hiv hil hf
  | true =>
    obtain ⟨f1, f2, _, _, _, _, _, f8, _, _⟩ := fineF_out hf
    obtain ⟨hv, hc, _, he⟩ := hr.newerF (m := m) f8
    obtain ⟨kd, hkd⟩ := Int.eq_ofNat_of_zero_le (show 0 ≤ m.kind by omega)
    have hk : (m.kind = 1 ∧ 47 + kd = 48) ∨ (m.kind = 2 ∧ 47 + kd = 49) ∨ (m.kind = 3 ∧ 47 + kd = 50) ∨ (m.kind = 4 ∧ 47 + kd = 51) := by omega
    have hp := handleF_deal hf
    have HM : ∀ W O, Deed W (w.heap.size + 3) O (newerF r m) [] → RdItems W (ND (w.heap.size + 3) O) iv m.items → Method (47 + kd) (w.heap.size + 3) O (newerF r m) m iv [] W (dealF (newerF r m) m) :=
      fun W O hd hi => deal_ok _ O r (newerF r m) m iv [] W hd hi hv hf hc he (by simp) kd hkd
    by_cases hgt : r.epoch < m.ep
    · have e1 : newerF r m = ⟨r.id, r.count, m.ep, -1, 1, r.log, r.conf, [], []⟩ := by unfold newerF; rw [if_pos hgt]; rfl
      rw [e1] at HM hp
      exact handle_newer r lv vv mv m iv w hlv hvv hmv hiv hil hf hgt _ hk _ hp HM
    · have e1 : newerF r m = r := by unfold newerF; rw [if_neg hgt]
      rw [e1] at HM hp
      exact handle_same r lv vv mv m iv w hlv hvv hmv hiv hil hf hgt _ hk _ hp HM

/-- what Propose hands back -/
def Hands3 (w : World) (r : Rep) (ls : List Let) (er : Int) (e : Ending) (w' : World) : Prop :=
  ∃ lv vv mv tv, e = .returned (.tuple #[.agg #[.int .i64 r.id, .int .i64 r.count, .int .i64 r.epoch, .int .i64 r.voted, .int .i64 r.role, lv, .int .i64 r.conf, vv, mv], tv, .int .i64 er]) ∧
    RdItems w' (fun k => k < w.heap.size ∧ Away k) lv r.log ∧ RdBools w' (fun k => k < w.heap.size ∧ Away k) vv r.votes ∧ RdInts w' (fun k => k < w.heap.size ∧ Away k) mv r.mat ∧ RdLets w' (fun k => k < w.heap.size ∧ Away k) tv ls ∧ Kept NoM w w'

theorem propose_not (r : Rep) (tx : ByteArray) (lv vv mv : Value) (w : World) (hlv : RdItems w Away lv r.log) (hvv : RdBools w Away vv r.votes) (hmv : RdInts w Away mv r.mat) (h3 : r.role ≠ 3) :
    Calls Tryd.prog 26 #[.agg #[.int .i64 r.id, .int .i64 r.count, .int .i64 r.epoch, .int .i64 r.voted, .int .i64 r.role, lv, .int .i64 r.conf, vv, mv], .string tx] w (Hands3 w (proposeF r tx).1 (proposeF r tx).2.1 22) := by
  have HF := Lib.hid (show proposeF r tx = (r, [], 0) by unfold proposeF; rw [if_pos h3])
  have t1 : (r.role != 3) = true := by rw [bne_iff_ne]; exact h3
  clear h3
  obtain ⟨la, lcap, rfl, _, _⟩ := hlv.shape
  obtain ⟨va, vcap, rfl, _, _⟩ := hvv.shape
  obtain ⟨ma, mcap, rfl, _, _⟩ := hmv.shape
  have K : ∀ a b, Kept NoM w ((w.alloc a).alloc b) := fun a b => ((Kept.refl NoM w).alloc a).alloc b
  go_enter Tryd.func26, Tryd.ntmps26
  go_wp2
  refine bodyPost_ret (v := .tuple #[.agg #[.int .i64 r.id, .int .i64 r.count, .int .i64 r.epoch, .int .i64 r.voted, .int .i64 r.role, .slice la r.log.length lcap, .int .i64 r.conf, .slice va r.votes.length vcap, .slice ma r.mat.length mcap], .slice none 0 0, .int .i64 22]) (by simp [results, Tryd.results26, go_sem]) rfl ?_
  rw [HF.out]
  exact ⟨_, _, _, _, rfl, hlv.step (K _ _).of_no (fun _ _ x => x.2), hvv.step (K _ _).of_no (fun _ _ x => x.2), hmv.step (K _ _).of_no (fun _ _ x => x.2), RdLets.nil _ _, K _ _⟩

theorem propose_full (r : Rep) (tx : ByteArray) (lv vv mv : Value) (w : World) (hlv : RdItems w Away lv r.log) (hvv : RdBools w Away vv r.votes) (hmv : RdInts w Away mv r.mat) (h3 : r.role = 3) (hs : (tx.size : Int) > 8000 ∨ r.log.length ≥ 1000) :
    Calls Tryd.prog 26 #[.agg #[.int .i64 r.id, .int .i64 r.count, .int .i64 r.epoch, .int .i64 r.voted, .int .i64 r.role, lv, .int .i64 r.conf, vv, mv], .string tx] w (Hands3 w (proposeF r tx).1 (proposeF r tx).2.1 2) := by
  have HF := Lib.hid (show proposeF r tx = (r, [], 0) by unfold proposeF; rw [if_neg (by omega), if_pos hs])
  have t1 : (r.role != 3) = false := by rw [bne_eq_false_iff_eq]; exact h3
  clear h3
  obtain ⟨la, lcap, rfl, _, _⟩ := hlv.shape
  obtain ⟨va, vcap, rfl, _, _⟩ := hvv.shape
  obtain ⟨ma, mcap, rfl, _, _⟩ := hmv.shape
  have K : ∀ a b, Kept NoM w ((w.alloc a).alloc b) := fun a b => ((Kept.refl NoM w).alloc a).alloc b
  by_cases h8 : (8000 : Int) < tx.size
  · clear hs
    go_enter Tryd.func26, Tryd.ntmps26
    go_wp2
    refine bodyPost_ret (v := .tuple #[.agg #[.int .i64 r.id, .int .i64 r.count, .int .i64 r.epoch, .int .i64 r.voted, .int .i64 r.role, .slice la r.log.length lcap, .int .i64 r.conf, .slice va r.votes.length vcap, .slice ma r.mat.length mcap], .slice none 0 0, .int .i64 2]) (by simp [results, Tryd.results26, go_sem]) rfl ?_
    rw [HF.out]
    exact ⟨_, _, _, _, rfl, hlv.step (K _ _).of_no (fun _ _ x => x.2), hvv.step (K _ _).of_no (fun _ _ x => x.2), hmv.step (K _ _).of_no (fun _ _ x => x.2), RdLets.nil _ _, K _ _⟩
  · have u1 : decide ((8000 : Int) < tx.size) = false := decide_eq_false h8
    have u3 : (1000 : Int) ≤ r.log.length := by omega
    clear hs
    go_enter Tryd.func26, Tryd.ntmps26
    go_wp2
    refine bodyPost_ret (v := .tuple #[.agg #[.int .i64 r.id, .int .i64 r.count, .int .i64 r.epoch, .int .i64 r.voted, .int .i64 r.role, .slice la r.log.length lcap, .int .i64 r.conf, .slice va r.votes.length vcap, .slice ma r.mat.length mcap], .slice none 0 0, .int .i64 2]) (by simp [results, Tryd.results26, go_sem]) rfl ?_
    rw [HF.out]
    exact ⟨_, _, _, _, rfl, hlv.step (K _ _).of_no (fun _ _ x => x.2), hvv.step (K _ _).of_no (fun _ _ x => x.2), hmv.step (K _ _).of_no (fun _ _ x => x.2), RdLets.nil _ _, K _ _⟩
end Go.Proofs.YtgohploghbimlaaDoor
