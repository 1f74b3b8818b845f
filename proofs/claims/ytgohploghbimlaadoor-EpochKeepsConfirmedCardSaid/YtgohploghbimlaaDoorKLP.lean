/- Plain laws: one leader, all letters delivered in the order in which they are sent. -/
import Derived.Test.YtgohploghbimlaaDoorKPlain
set_option linter.unusedVariables false
set_option linter.unusedSimpArgs false
set_option linter.unusedSectionVars false
namespace Go.Proofs.YtgohploghbimlaaDoor

/-- letters are delivered one after the other, from number d on -/
inductive Del (it : Int → ByteArray) : WS → Nat → WS → Nat → Prop
  | refl (s : WS) (d : Nat) : Del it s d s d
  | step {s t : WS} {d e : Nat} (h : d < s.lets.length) (k : Del it (playF it s 2 0 d) (d + 1) t e) : Del it s d t e
theorem Del.trans {it : Int → ByteArray} {s t u : WS} {d e f : Nat} (h : Del it s d t e) (k : Del it t e u f) : Del it s d u f := by
  induction h with
  | refl => exact k
  | step h _ ih => exact .step h (ih k)
theorem Del.le {it : Int → ByteArray} {s t : WS} {d e : Nat} (h : Del it s d t e) : d ≤ e := by
  induction h with
  | refl => omega
  | step _ _ ih => omega

theorem deliver (it : Int → ByteArray) {s : WS} {d i : Nat} {m : Let} {r : Rep} (h0 : 0 < s.reps.length) (hm : s.lets[d]? = some m) (hd : m.dst = i) (hr : s.reps[i]? = some r) : playF it s 2 0 d = stepF s i (handleF r m) := by
  have hl := (List.getElem?_eq_some_iff.1 hm).1
  unfold playF
  rw [if_neg (by omega), if_neg (by decide), if_pos rfl, if_neg (by omega)]
  simp only [Int.toNat_natCast, hm, hd, hr]

/-- letters to different replicas -/
theorem del_each (it : Int → ByteArray) (M Rp : Nat → Let) (A B : Nat → Rep) : ∀ (os : List Nat) (pre rest : List Let) (s : WS), s.lets = pre ++ os.map M ++ rest → 0 < s.reps.length → os.Nodup →
    (∀ i ∈ os, s.reps[i]? = some (A i) ∧ (M i).dst = i ∧ handleF (A i) (M i) = (B i, [Rp i])) →
    ∃ t, Del it s pre.length t (pre.length + os.length) ∧ t.lets = s.lets ++ os.map Rp ∧ t.reps.length = s.reps.length ∧ (∀ k, k ∉ os → t.reps[k]? = s.reps[k]?) ∧ ∀ i ∈ os, t.reps[i]? = some (B i) := by
  intro os
  induction os with
  | nil => intro pre rest s _ _ _ _; exact ⟨s, .refl _ _, by simp, rfl, fun _ _ => rfl, fun i hi => by cases hi⟩
  | cons i os ih =>
    intro pre rest s hl h0 hn hA
    obtain ⟨hi, hn⟩ := List.nodup_cons.1 hn
    obtain ⟨a1, a2, a3⟩ := hA i (List.mem_cons_self ..)
    have hm : s.lets[pre.length]? = some (M i) := by rw [hl]; simp
    have hp := deliver it h0 hm a2 a1
    rw [a3] at hp
    have hil := (List.getElem?_eq_some_iff.1 a1).1
    obtain ⟨t, t1, t2, t3, t4, t5⟩ := ih (pre ++ [M i]) (rest ++ [Rp i]) (stepF s i (B i, [Rp i])) (by simp [stepF, hl]) (by simpa [stepF] using h0) hn (fun k hk => by
      obtain ⟨b1, b2, b3⟩ := hA k (List.mem_cons_of_mem _ hk)
      refine ⟨?_, b2, b3⟩
      simp only [stepF]
      rw [List.getElem?_set_ne (fun h => hi (by rw [h]; exact hk))]
      exact b1)
    refine ⟨t, ?_, ?_, ?_, ?_, ?_⟩
    · refine .step (by rw [hl]; simp) ?_
      rw [hp]
      simpa [Nat.add_assoc, Nat.add_comm, Nat.add_left_comm] using t1
    · rw [t2]; simp [stepF]
    · rw [t3]; simp [stepF]
    · intro k hk
      simp only [List.mem_cons, not_or] at hk
      rw [t4 k hk.2]
      simp only [stepF]
      rw [List.getElem?_set_ne (fun h => hk.1 h.symm)]
    · intro k hk
      rcases List.mem_cons.1 hk with rfl | hk
      · rw [t4 _ hi]
        simp only [stepF]
        rw [List.getElem?_set_self hil]
      · exact t5 k hk

/-- a replica handles letters, one after the other -/
def hAll : Rep → List Let → Rep × List Let
  | r, [] => (r, [])
  | r, m :: ms => ((hAll (handleF r m).1 ms).1, (handleF r m).2 ++ (hAll (handleF r m).1 ms).2)
theorem del_one (it : Int → ByteArray) (id : Nat) : ∀ (ms pre rest : List Let) (s : WS) (r : Rep), s.lets = pre ++ ms ++ rest → 0 < s.reps.length → s.reps[id]? = some r → (∀ m ∈ ms, m.dst = id) →
    ∃ t, Del it s pre.length t (pre.length + ms.length) ∧ t.lets = s.lets ++ (hAll r ms).2 ∧ t.reps.length = s.reps.length ∧ (∀ k, k ≠ id → t.reps[k]? = s.reps[k]?) ∧ t.reps[id]? = some (hAll r ms).1 := by
  intro ms
  induction ms with
  | nil => intro pre rest s r _ _ hr _; exact ⟨s, .refl _ _, by simp [hAll], rfl, fun _ _ => rfl, hr⟩
  | cons m ms ih =>
    intro pre rest s r hl h0 hr hd
    have hm : s.lets[pre.length]? = some m := by rw [hl]; simp
    have hp := deliver it h0 hm (hd m (List.mem_cons_self ..)) hr
    have hil := (List.getElem?_eq_some_iff.1 hr).1
    obtain ⟨t, t1, t2, t3, t4, t5⟩ := ih (pre ++ [m]) (rest ++ (handleF r m).2) (stepF s id (handleF r m)) (handleF r m).1 (by simp [stepF, hl]) (by simpa [stepF] using h0) (by simp only [stepF]; exact List.getElem?_set_self hil) (fun x hx => hd x (List.mem_cons_of_mem _ hx))
    refine ⟨t, ?_, ?_, ?_, ?_, ?_⟩
    · refine .step (by rw [hl]; simp) ?_
      rw [hp]
      simpa [Nat.add_assoc, Nat.add_comm, Nat.add_left_comm] using t1
    · rw [t2]; simp [stepF, hAll]
    · rw [t3]; simp [stepF]
    · intro k hk
      rw [t4 k hk]
      simp only [stepF]
      rw [List.getElem?_set_ne (fun h => hk h.symm)]
    · rw [t5]; rfl

/-- all others -/
def osF (n id : Nat) : List Nat := (List.range n).filter fun k => k != id
theorem osF_mem {n id k : Nat} : k ∈ osF n id ↔ k < n ∧ k ≠ id := by simp [osF]
theorem osF_nodup (n id : Nat) : (osF n id).Nodup := List.nodup_range.filter _
theorem othersF_os (n id : Nat) : othersF n (id : Int) = (osF n id).map fun k => ((k : Nat) : Int) := by
  unfold othersF osF
  rw [List.filter_map]
  congr 1
  apply List.filter_congr
  intro k _
  simp only [Function.comp, bne, Bool.not_eq_not]
  by_cases h : k = id
  · subst h; simp
  · have h2 : ((k : Nat) : Int) ≠ (id : Int) := by omega
    rw [beq_eq_false_iff_ne.2 h2, beq_eq_false_iff_ne.2 h]
theorem osF_len {n id : Nat} (h : id < n) : (osF n id).length + 1 = n := by
  have h1 : (osF n id).length = n - (List.range n).countP (fun k => k == id) := by
    unfold osF
    have := List.length_eq_countP_add_countP (fun k => k == id) (l := List.range n)
    rw [← List.countP_eq_length_filter]
    simp only [List.length_range] at this
    have e : (List.range n).countP (fun k => k != id) = (List.range n).countP (fun a => decide ¬ (a == id) = true) := by
      congr 1; funext a; by_cases h : a = id <;> simp [h, bne]
    omega
  have h2 : (List.range n).countP (fun k => k == id) = 1 := by
    have : (List.range n).count id = 1 := by rw [List.count_range]; simp [h]
    exact this
  omega
end Go.Proofs.YtgohploghbimlaaDoor
