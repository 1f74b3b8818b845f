/- Walks: Receive of the program, all ways. -/
import Derived.Test.YtghgegghlefclaaKW30
import Derived.Test.YtghgegghlefclaaKV0
set_option linter.unusedVariables false
set_option linter.unusedSimpArgs false
set_option linter.unusedSectionVars false
namespace Go.Proofs.Ytghgegghlefclaa
open Go.RowKit
set_option maxHeartbeats 2000000
theorem recvA_new {d : Dev} {x : Wr} (h : x.ep > d.ep) : recvA d x = if earlyW d x = true then [⟨x.ep, x.seq, 0⟩] else [] := by
  unfold recvA
  have hf : fresh d x = { d with ep := x.ep, queue := [], done := [], lost := [] } := by unfold fresh; rw [if_pos h]
  rw [if_neg (by omega), hf]
  rfl
theorem recv_ok (v : Value) (d : Dev) (x : Wr) (M : Nat → Prop) (w : World) (h : DevV w M v d) (hM : ∀ i, M i → i < w.heap.size) (hql : d.queue.length ≤ 64) (hdl : d.done.length ≤ 1000)
    (hF : ∀ wx, Kept NoM w wx → Calls Try.prog 41 #[.agg (wrC x)] wx fun e w' => e = .returned (.bool true) ∧ Kept NoM wx w') :
    Calls Try.prog 17 #[v, .agg (wrC x)] w (RecvPost M w (recvD d x) (recvA d x)) := by
  obtain ⟨ta, tc, qa, qc, da, dc, la, lc, rfl, h⟩ := h
  have hq2 : d.queue.length ≤ 1000 := by omega
  by_cases h1 : x.ep < d.ep
  · obtain ⟨e1, e2⟩ := recv_old h1
    rw [e1, e2]
    exact recv_less d x ta qa da la tc qc dc lc M w h hM hq2 hdl hF h1
  by_cases h2 : d.ep < x.ep
  · rw [recv_new h2, recvA_new h2]
    cases he : earlyW d x with
    | true => exact recv_new1 d x ta qa da la tc qc dc lc M w h hM hq2 hdl hF h2 he
    | false => exact recv_new2 d x ta qa da la tc qc dc lc M w h hM hq2 hdl hF h2 he
  have hep : x.ep = d.ep := by omega
  have hfr : fresh d x = d := fresh_same h2
  unfold recvD recvA
  rw [if_neg h1, if_neg h1, hfr]
  cases hh : hasI d.done x.seq with
  | true => exact recv_done d x ta qa da la tc qc dc lc M w h hM hq2 hdl hF hep hh
  | false =>
    cases hw : hasSeq d.queue x.seq with
    | true =>
      cases he : earlyW d x with
      | true => exact recv_wait1 d x ta qa da la tc qc dc lc M w h hM hq2 hdl hF hep hh hw he
      | false => exact recv_wait2 d x ta qa da la tc qc dc lc M w h hM hq2 hdl hF hep hh hw he
    | false =>
      by_cases hf : 64 ≤ d.queue.length
      · simp only [Bool.false_eq_true, if_false, if_pos hf]
        exact recv_full d x ta qa da la tc qc dc lc M w h hM hq2 hdl hF hep hh hw (by omega)
      · simp only [Bool.false_eq_true, if_false, if_neg hf]
        cases he : earlyW d x with
        | true => exact recv_add1 d x ta qa da la tc qc dc lc M w h hM hq2 hdl hF hep hh hw (by omega) he
        | false => exact recv_add2 d x ta qa da la tc qc dc lc M w h hM hq2 hdl hF hep hh hw (by omega) he
end Go.Proofs.Ytghgegghlefclaa
