/- Texts that belong together: V17, W62. -/
import Derived.Test.YtghgegghlefclaaKW16
import Derived.Test.YtghgegghlefclaaKW25
import Derived.Test.YtghgegghlefclaaKV0
import Derived.Test.YtghgegghlefclaaKV3
import Derived.Test.YtghgegghlefclaaKW49
import Derived.Test.YtghgegghlefclaaKW55
import Derived.Test.YtghgegghlefclaaKW58
import Derived.Test.YtghgegghlefclaaKW47
import Derived.Test.YtghgegghlefclaaKW33
set_option linter.unusedVariables false
set_option linter.unusedSimpArgs false
set_option linter.unusedSectionVars false
/- The bounds of a device are kept by what is done to it. -/
namespace Go.Proofs.Ytghgegghlefclaa
open Go.RowKit
set_option maxHeartbeats 2000000
theorem DevB.recv {w : World} {d : Dev} {x : Wr} (h : DevB w d) (hx : OutB w x.rule) (R : RD d) : DevB w (recvD d x) := by
  have hf : DevB w (fresh d x) := by
    unfold fresh
    split
    · exact ⟨h.t, fun y hy => by simp at hy, h.tl, Nat.zero_le _, Nat.zero_le _, Nat.zero_le _⟩
    · exact h
  have hq : (fresh d x).queue.length ≤ 64 := by
    unfold fresh
    split
    · exact Nat.zero_le _
    · exact R.ql
  unfold recvD
  split
  · exact h
  · split
    · exact hf
    · split
      · exact hf
      · split
        · exact hf
        · exact ⟨hf.t, fun y hy => by
            rcases List.mem_append.1 hy with hy | hy
            · exact hf.q y hy
            · rw [List.mem_singleton] at hy; subst hy; exact hx, hf.tl, by simp; omega, hf.dl, hf.ll⟩
theorem mem_insT_or {r x : Ru} {t : List Ru} (h : x ∈ insT r t) : x = r ∨ x ∈ t := by
  induction t with
  | nil => simp [insT] at h; exact .inl h
  | cons y t ih =>
    unfold insT at h
    split at h
    · rcases List.mem_cons.1 h with h | h
      · exact .inl h
      · exact .inr h
    · split at h
      · rcases List.mem_cons.1 h with h | h
        · exact .inl h
        · exact .inr (List.mem_cons_of_mem _ h)
      · rcases List.mem_cons.1 h with h | h
        · exact .inr (h ▸ List.mem_cons_self)
        · rcases ih h with h | h
          · exact .inl h
          · exact .inr (List.mem_cons_of_mem _ h)
theorem mem_putT_or {t : List Ru} {room : Int} {y : Wr} {r : Ru} (h : r ∈ putT t room y) : r = y.rule ∨ r ∈ t := by
  unfold putT at h
  split at h
  · unfold putU at h
    split at h
    · exact .inr h
    · split at h
      · exact .inr (mem_remT.1 h).1
      · exact mem_insT_or h
  · exact .inr h
theorem len_putT (t : List Ru) (room : Int) (y : Wr) : (putT t room y).length ≤ t.length + 1 := by
  unfold putT
  split
  · have := len_putU t y
    have h2 : (if y.kind = 3 then 0 else if y.kind = 2 then 0 else 1 : Nat) ≤ 1 := by split <;> (try split) <;> omega
    omega
  · omega
theorem DevB.doW' {w : World} {d : Dev} {kn : Nat} {y : Wr} (h : DevB w d) (hk : d.queue[kn]? = some y) (ht : d.table.length ≤ 9000) (hd : d.done.length ≤ 9000) : DevB w (doW d kn y) := by
  have hy := h.q y (List.mem_of_getElem? hk)
  refine ⟨fun r hr => ?_, fun z hz => h.q z (mem_erase hz), ?_, ?_, ?_, h.ll⟩
  · have hr' : r ∈ (if hasI d.lost y.seq = true then d.table else putT d.table d.room y) := hr
    split at hr'
    · exact h.t r hr'
    · rcases mem_putT_or hr' with e | hr'
      · rw [e]; exact hy
      · exact h.t r hr'
  · show (if hasI d.lost y.seq = true then d.table else putT d.table d.room y).length ≤ 10000
    split
    · omega
    · have := len_putT d.table d.room y; omega
  · have := List.length_eraseIdx_le d.queue kn
    have := h.ql
    show (d.queue.eraseIdx kn).length ≤ 10000
    omega
  · show (if isPut d y = true then insI y.seq d.done else d.done).length ≤ 10000
    split
    · rw [len_insI]; omega
    · omega
theorem DevB.doW {w : World} {d : Dev} {kn : Nat} {y : Wr} (h : DevB w d) (F : Few d) (hk : d.queue[kn]? = some y) : DevB w (Proofs.Ytghgegghlefclaa.doW d kn y) := h.doW' hk (by have := F.t; omega) (by have := F.dn; omega)
theorem DevB.reb {w : World} {d : Dev} (h : DevB w d) (keep : Bool) : DevB w (rebD d keep) := by
  refine ⟨fun r hr => ?_, fun y hy => by simp [rebD] at hy, ?_, Nat.zero_le _, Nat.zero_le _, h.ll⟩
  · cases keep
    · simp [rebD] at hr
    · exact h.t r hr
  · cases keep
    · exact Nat.zero_le _
    · exact h.tl
theorem rdyTo_inv {q : List Wr} {k : Int} (h : hasI (rdyTo q q.length) k = true) : ∃ (kn : Nat) (y : Wr), k = kn ∧ q[kn]? = some y ∧ rdyB q kn = true := by
  obtain ⟨n, hn, e⟩ := List.mem_map.1 (hasI_iff.1 h)
  obtain ⟨h1, h2⟩ := List.mem_filter.1 hn
  have := List.mem_range.1 h1
  exact ⟨n, q[n], e.symm, by simp, h2⟩
end Go.Proofs.Ytghgegghlefclaa

/- Walks: Receive and Do of the program and of the specification answer alike, whatever is received or done. -/
namespace Go.Proofs.Ytghgegghlefclaa
open Go.RowKit
set_option maxHeartbeats 4000000
set_option maxRecDepth 8000
theorem recv_bad (d : Dev) (x : Wr) (ta qa da la : Option Addr) (tc qc dc lc : Nat) (w : World) (hk1 : -9223372036854775808 ≤ x.kind) (hk2 : x.kind ≤ 9223372036854775807) (hf : formedB x = false) :
    Calls Try.prog 17 #[.agg (devC d ta tc qa qc da dc la lc), .agg (wrC x)] w (BadPost w) := by
  have KB := Lib.hid ((((Kept.refl NoM w).alloc (.cells (devC d ta tc qa qc da dc la lc) 27)).alloc (.cells (wrC x) 41)).alloc (.cells devZC 27))
  have B1 := Lib.hid (blk_old (blk_new' (w.alloc (.cells (devC d ta tc qa qc da dc la lc) 27)) (.cells (wrC x) 41) (w.heap.size + 1) (by simp)) (.cells devZC 27))
  have B4 := Lib.hid (blk_new' ((w.alloc (.cells (devC d ta tc qa qc da dc la lc) 27)).alloc (.cells (wrC x) 41)) (.cells devZC 27) (w.heap.size + 2) (by simp))
  have FM := Lib.hid (formed_ok x (((w.alloc (.cells (devC d ta tc qa qc da dc la lc) 27)).alloc (.cells (wrC x) 41)).alloc (.cells devZC 27)) hk1 hk2)
  have HF := Lib.hid hf
  clear hk1 hk2 hf
  go_enter Try.func17, Try.ntmps17
  go_wp2_with (first
      | (refine wpList_alloc_Z rfl 27 rfl _ (devZ _) ?_)
      | (refine wpList_load_big bigWr rfl _ rfl (w.heap.size + 1) 0 (wrC x) rfl (range_blk B1.out) rfl ?_)
      | (go_at_call 41; refine FM.out.mono ?_; rw [HF.out]; rintro e w1 ⟨rfl, k1⟩; have K1 := Lib.hid (KB.out.trans k1); have C4 := Lib.hid (k1.blk B4.out (fun x => x)); clear k1 FM)
      | (refine wpList_store_bigb (cs := devZC) bigDev rfl _ _ rfl (w.heap.size + 2) rfl rfl C4.out rfl rfl (dev1 _ _ _ _ _ _ _ _ _) ?_))
  have GB := Lib.hid (putB_blk w1 (w.heap.size + 2) devZC 27 (lt_of_block C4.out))
  have FD := Lib.hid (K1.out.putN (b := w.heap.size + 2) (by omega) devZC 27)
  generalize putB w1 (w.heap.size + 2) devZC 27 = wx at *
  have hl0 : _root_.Go.World.cell? _ ⟨w.heap.size + 2, 0, none⟩ = _ := cell_blk GB.out 0 _ dv0
  have hl1 : _root_.Go.World.cell? _ ⟨w.heap.size + 2, 1, none⟩ = _ := cell_blk GB.out 1 _ dv1
  have hl2 : _root_.Go.World.cell? _ ⟨w.heap.size + 2, 2, none⟩ = _ := cell_blk GB.out 2 _ dv2
  have hl3 : _root_.Go.World.cell? _ ⟨w.heap.size + 2, 3, none⟩ = _ := cell_blk GB.out 3 _ dv3
  have hl4 : _root_.Go.World.cell? _ ⟨w.heap.size + 2, 4, none⟩ = _ := cell_blk GB.out 4 _ dv4
  have hl5 : _root_.Go.World.cell? _ ⟨w.heap.size + 2, 5, none⟩ = _ := cell_blk GB.out 5 _ dv5
  have hl6 : _root_.Go.World.cell? _ ⟨w.heap.size + 2, 6, none⟩ = _ := cell_blk GB.out 6 _ dv6
  refine bodyPost_ret (v := .tuple #[.agg devZC, .slice none 0 0, .int .i64 1]) (by simp [results, Try.results17, go_sem, devC, devZC, dev0, hl0, hl1, hl2, hl3, hl4, hl5, hl6]) rfl ?_
  exact ⟨rfl, FD.out⟩
theorem rdo_ok (v : Value) (d : Dev) (kn : Nat) (x : Wr) (M : Nat → Prop) (w : World) (h : DevV w M v d) (hM : ∀ i, M i → i < w.heap.size) (R : RD d) (F : Few d) (hk : d.queue[kn]? = some x) (hr : rdyB d.queue kn = true) :
    Calls Try.prog 19 #[v, .int .i64 kn] w (DoPost M w (doW d kn x) (doA d x)) := by
  obtain ⟨ta, tc, qa, qc, da, dc, la, lc, rfl, h⟩ := h
  have hql : d.queue.length ≤ 1000 := by have := R.ql; omega
  unfold doW doneD doA isPut
  cases hlo : hasI d.lost x.seq with
  | true =>
    cases he : earlyW d x with
    | true => exact rdo_l1 d kn x ta qa da la tc qc dc lc M w h hM hk hr hql F.t F.dn F.l R.tab.dec hlo he
    | false => exact rdo_l2 d kn x ta qa da la tc qc dc lc M w h hM hk hr hql F.t F.dn F.l R.tab.dec hlo he
  | false =>
    cases hpk : putOk d.table d.room x with
    | true =>
      cases he : earlyW d x with
      | true => exact rdo_p1 d kn x ta qa da la tc qc dc lc M w h hM hk hr hql F.t F.dn F.l R.tab.dec hlo hpk he
      | false => exact rdo_p2 d kn x ta qa da la tc qc dc lc M w h hM hk hr hql F.t F.dn F.l R.tab.dec hlo hpk he
    | false =>
      cases he : earlyW d x with
      | true => exact rdo_f1 d kn x ta qa da la tc qc dc lc M w h hM hk hr hql F.t F.dn F.l R.tab.dec hlo hpk he
      | false => exact rdo_f2 d kn x ta qa da la tc qc dc lc M w h hM hk hr hql F.t F.dn F.l R.tab.dec hlo hpk he
/-- what is answered: a device, acknowledgements, an error -/
def AnsPost (w : World) (D : Dev) (A : List Ak) (n : Int) (e : Ending) (w' : World) : Prop := ∃ v av, e = .returned (.tuple #[v, av, .int .i64 n]) ∧ DevV w' NoM v D ∧ RdS w' NoM 3 EAk av A ∧ Kept NoM w w'
theorem AnsPost.bad {w : World} {e : Ending} {w' : World} (h : BadPost w e w') : AnsPost w dev0 [] 1 e w' := ⟨_, _, h.1, zdev w' NoM, acks_nil, h.2⟩
theorem noM_lt' {w : World} : ∀ i, NoM i → i < w.heap.size := fun _ h => h.elim
theorem devB0 (w : World) : DevB w dev0 := ⟨fun r hr => by simp [dev0] at hr, fun y hy => by simp [dev0] at hy, Nat.zero_le _, Nat.zero_le _, Nat.zero_le _, Nat.zero_le _⟩
/-- the two Receives -/
theorem recv_any (d : Dev) (x : Wr) (ta qa da la : Option Addr) (tc qc dc lc : Nat) (w : World) (h : DevR w NoM d ta tc qa qc da dc la lc) (R : RD d) (F : Few d) (hb : DevB w d) (hx : OutB w x.rule) (hk1 : -9223372036854775808 ≤ x.kind) (hk2 : x.kind ≤ 9223372036854775807) :
    ∃ D A n, DevB w D ∧ A.length ≤ 1000000 ∧ ∀ wx, Kept NoM w wx → Calls Try.prog 17 #[.agg (devC d ta tc qa qc da dc la lc), .agg (wrC x)] wx (AnsPost wx D A n) ∧ Calls Try.prog 18 #[.agg (devC d ta tc qa qc da dc la lc), .agg (wrC x)] wx (AnsPost wx D A n) := by
  cases hf : formedB x with
  | false =>
    refine ⟨dev0, [], 1, devB0 w, Nat.zero_le _, fun wx k => ⟨(recv_bad d x ta qa da la tc qc dc lc wx hk1 hk2 hf).mono fun e w' q => AnsPost.bad q, (rrecv_bad d x ta qa da la tc qc dc lc NoM wx (h.kept k.of_no) noM_lt' (by have := R.ql; omega) (by have := F.dn; omega) hf).mono fun e w' q => AnsPost.bad q⟩⟩
  | true =>
    refine ⟨recvD d x, recvA d x, 0, hb.recv hx R, ?_, fun wx k => ?_⟩
    · unfold recvA
      split
      · simp
      · split
        · simp
        · split
          · split <;> simp
          · split
            · simp
            · split <;> simp
    · have hv : DevV wx NoM (.agg (devC d ta tc qa qc da dc la lc)) d := ⟨ta, tc, qa, qc, da, dc, la, lc, rfl, h.kept k.of_no⟩
      exact ⟨(recv_ok _ d x NoM wx hv noM_lt' R.ql F.dn (fun wy _ => by have := formed_ok x wy hk1 hk2; rwa [hf] at this)), rrecv_ok _ d x NoM wx hv noM_lt' R.ql F.dn hf⟩
/-- the two Dos -/
theorem do_any (d : Dev) (k : Int) (ta qa da la : Option Addr) (tc qc dc lc : Nat) (w : World) (h : DevR w NoM d ta tc qa qc da dc la lc) (R : RD d) (F : Few d) (hb : DevB w d) :
    ∃ D A n, DevB w D ∧ A.length ≤ 1000000 ∧ ∀ wx, Kept NoM w wx → Calls Try.prog 14 #[.agg (devC d ta tc qa qc da dc la lc), .int .i64 k] wx (AnsPost wx D A n) ∧ Calls Try.prog 19 #[.agg (devC d ta tc qa qc da dc la lc), .int .i64 k] wx (AnsPost wx D A n) := by
  have hql : d.queue.length ≤ 1000 := by have := R.ql; omega
  cases hr : hasI (rdyTo d.queue d.queue.length) k with
  | false =>
    refine ⟨dev0, [], 1, devB0 w, Nat.zero_le _, fun wx kk => ⟨(do_bad d k ta qa da la tc qc dc lc NoM wx (h.kept kk.of_no) hql (fun x hx => by have := formed_pri (R.q x hx).1; omega) hr).mono fun e w' q => AnsPost.bad q, (rdo_bad d k ta qa da la tc qc dc lc NoM wx (h.kept kk.of_no) hql hr).mono fun e w' q => AnsPost.bad q⟩⟩
  | true =>
    obtain ⟨kn, y, rfl, h1, h2⟩ := rdyTo_inv hr
    refine ⟨doW d kn y, doA d y, 0, hb.doW F h1, by have := doA_len d y; omega, fun wx kk => ?_⟩
    have hv : DevV wx NoM (.agg (devC d ta tc qa qc da dc la lc)) d := ⟨ta, tc, qa, qc, da, dc, la, lc, rfl, h.kept kk.of_no⟩
    exact ⟨do_ok _ d kn y NoM wx hv noM_lt' R F h1 h2, rdo_ok _ d kn y NoM wx hv noM_lt' R F h1 h2⟩
end Go.Proofs.Ytghgegghlefclaa
