/- Texts that belong together: Plain, LA, LB, LC, LD, LS. -/
import Derived.WalkKit
set_option linter.unusedVariables false
set_option linter.unusedSimpArgs false
set_option linter.unusedSectionVars false
/- The plain functions that the epoch program computes, on lists and numbers. No program, no walk. -/
namespace Go.Proofs.YtgohploghbimlaaDoor

structure Item where
  ep : Int
  tx : ByteArray

structure Rep where
  id : Int
  count : Int
  epoch : Int
  voted : Int
  role : Int
  log : List Item
  conf : Int
  votes : List Bool
  mat : List Int

structure Let where
  kind : Int
  src : Int
  dst : Int
  ep : Int
  pos : Int
  aep : Int
  items : List Item
  conf : Int
  yes : Bool

def lastF (l : List Item) : Int := match l.getLast? with | none => 0 | some x => x.ep

def properF : List Item → Int → Int → Bool
  | [], _, _ => true
  | x :: r, lo, hi => if x.ep < lo ∨ x.ep > hi ∨ (x.tx.size : Int) > 8000 then false else properF r x.ep hi

structure Valid (r : Rep) : Prop where
  count1 : 1 ≤ r.count
  count7 : r.count ≤ 7
  id0 : 0 ≤ r.id
  id1 : r.id < r.count
  ep0 : 0 ≤ r.epoch
  ep1 : r.epoch ≤ 1073741824
  vo0 : -1 ≤ r.voted
  vo1 : r.voted < r.count
  ro0 : 1 ≤ r.role
  ro1 : r.role ≤ 3
  len : r.log.length ≤ 1000
  cf0 : 0 ≤ r.conf
  cf1 : r.conf ≤ r.log.length
  prop : properF r.log 1 r.epoch = true
  votes : (r.votes.length : Int) = if r.role = 2 then r.count else 0
  mat : (r.mat.length : Int) = if r.role = 3 then r.count else 0
  match_ : ∀ x ∈ r.mat, 0 ≤ x ∧ x ≤ r.log.length
  lead : r.role = 1 ∨ (r.voted = r.id ∧ 0 < r.epoch)

/-- the numbers of all others -/
def othersF (n : Nat) (id : Int) : List Int := ((List.range n).map fun k => ((k : Nat) : Int)).filter fun k => k != id

/-- what a leader sends to replica k -/
def logLet (r : Rep) (k : Int) : Let :=
  let p := r.mat.getD k.toNat 0
  { kind := 3, src := r.id, dst := k, ep := r.epoch, pos := p, aep := lastF (r.log.take p.toNat), items := (r.log.take (min r.log.length (p.toNat + 50))).drop p.toNat, conf := r.conf, yes := false }

def followF (r : Rep) : Rep := { r with role := 1, votes := [], mat := [] }

/-- the place in the sorted list that a majority has reached -/
def median (l : List Int) (k : Nat) : Int := (l.mergeSort (fun a b => decide (a ≤ b))).getD k 0

def settleF (r : Rep) : Rep :=
  if r.count = 1 then { r with conf := r.log.length }
  else
    let n := median r.mat ((r.count - 1) / 2).toNat
    if n > r.conf ∧ lastF (r.log.take n.toNat) = r.epoch then { r with conf := n } else r

def leadF (r : Rep) : Rep × List Let :=
  let r1 : Rep := settleF { r with role := 3, votes := [], mat := (List.replicate r.count.toNat 0).set r.id.toNat r.log.length }
  (r1, (othersF r.count.toNat r.id).map (logLet r1))

def timeoutF (r : Rep) : Rep × List Let :=
  if r.role = 3 then (r, (othersF r.count.toNat r.id).map (logLet r))
  else if r.epoch ≥ 1073741824 then (r, [])
  else
    let r1 : Rep := { r with epoch := r.epoch + 1, role := 2, voted := r.id, votes := (List.replicate r.count.toNat false).set r.id.toNat true }
    if 2 * 1 > r.count then leadF r1
    else (r1, (othersF r.count.toNat r.id).map fun k => { kind := 1, src := r1.id, dst := k, ep := r1.epoch, pos := r1.log.length, aep := lastF r1.log, items := [], conf := 0, yes := false })

def fineF (r : Rep) (m : Let) : Bool :=
  if m.kind < 1 ∨ m.kind > 4 ∨ m.dst ≠ r.id ∨ m.src < 0 ∨ m.src ≥ r.count ∨ m.src = r.id ∨ m.ep < 1 ∨ m.ep > 1073741824 then false
  else if m.kind = 2 then true
  else if m.pos < 0 ∨ m.pos > 1000 then false
  else if m.kind ≠ 3 then true
  else decide (m.aep ≥ 0 ∧ m.aep ≤ m.ep ∧ (m.pos > 0 ∨ m.aep = 0) ∧ m.pos + m.items.length ≤ 1000 ∧ m.conf ≥ 0) && properF m.items (max 1 m.aep) m.ep

def askYes (r : Rep) (m : Let) : Bool :=
  decide (m.ep = r.epoch ∧ (r.voted = -1 ∨ r.voted = m.src) ∧ (m.aep > lastF r.log ∨ (m.aep = lastF r.log ∧ m.pos ≥ r.log.length)))

def askF (r : Rep) (m : Let) : Rep × List Let :=
  ((if askYes r m then { r with voted := m.src } else r),
   [{ kind := 2, src := r.id, dst := m.src, ep := r.epoch, pos := 0, aep := 0, items := [], conf := 0, yes := askYes r m }])

def countT (l : List Bool) : Int := (l.countP (· == true) : Nat)

def voteF (r : Rep) (m : Let) : Rep × List Let :=
  if r.role ≠ 2 ∨ m.ep ≠ r.epoch ∨ m.yes = false then (r, [])
  else
    let r1 : Rep := { r with votes := r.votes.set m.src.toNat true }
    if 2 * countT r1.votes > r.count then leadF r1 else (r1, [])

/-- how many items are the same -/
def sameF (log items : List Item) : Nat := match log, items with
  | x :: l, y :: i => if x.ep = y.ep then sameF l i + 1 else 0
  | _, _ => 0

def refusal (r : Rep) (m : Let) : Let := { kind := 4, src := r.id, dst := m.src, ep := r.epoch, pos := 0, aep := 0, items := [], conf := 0, yes := false }

def appendLog (r : Rep) (m : Let) : List Item :=
  let s := sameF (r.log.drop m.pos.toNat) m.items
  if s < m.items.length then r.log.take (m.pos.toNat + s) ++ m.items.drop s else r.log

def appendF (r : Rep) (m : Let) : Rep × List Let :=
  if m.ep < r.epoch then (r, [refusal r m])
  else if r.role = 3 then (r, [])
  else
    let r1 := followF r
    if (r.log.length : Int) < m.pos ∨ lastF (r.log.take m.pos.toNat) ≠ m.aep then (r1, [refusal r m])
    else
      let l := appendLog r m
      let en := m.pos + m.items.length
      ({ r1 with log := l, conf := min (max r.conf (min m.conf en)) l.length },
       [{ kind := 4, src := r.id, dst := m.src, ep := r.epoch, pos := en, aep := 0, items := [], conf := 0, yes := true }])

def replyF (r : Rep) (m : Let) : Rep × List Let :=
  if r.role ≠ 3 ∨ m.ep ≠ r.epoch ∨ m.yes = false then (r, [])
  else
    let x := max (r.mat.getD m.src.toNat 0) (min m.pos r.log.length)
    let r1 := settleF { r with mat := r.mat.set m.src.toNat x }
    (r1, if x < r.log.length then [logLet r1 m.src] else [])

def handleF (r : Rep) (m : Let) : Rep × List Let :=
  if fineF r m = false then (r, [])
  else
    let r1 : Rep := if m.ep > r.epoch then { followF r with epoch := m.ep, voted := -1 } else r
    if m.kind = 1 then askF r1 m else if m.kind = 2 then voteF r1 m else if m.kind = 3 then appendF r1 m else replyF r1 m

def proposeF (r : Rep) (t : ByteArray) : Rep × List Let × Int :=
  if r.role ≠ 3 then (r, [], 0)      -- the error: see the walk
  else if (t.size : Int) > 8000 ∨ r.log.length ≥ 1000 then (r, [], 0)
  else
    let log := r.log ++ [⟨r.epoch, t⟩]
    let r1 : Rep := { r with log := log, mat := r.mat.set r.id.toNat log.length }
    let r2 := if r.count = 1 then settleF r1 else r1
    (r2, (othersF r.count.toNat r.id).map (logLet r2), 0)

def restartF (r : Rep) : Rep := { followF r with conf := 0 }

def confirmedF (r : Rep) : List ByteArray := (r.log.take r.conf.toNat).map Item.tx
end Go.Proofs.YtgohploghbimlaaDoor

/- Plain laws: the specification's loops compute what the program computes. No program in sight. -/
namespace Go.Proofs.YtgohploghbimlaaDoor

/-- how many are at least n -/
def countGe (l : List Int) (n : Int) : Int := (l.countP (fun x => decide (n ≤ x)) : Nat)

theorem countGe_perm {l s : List Int} (h : l.Perm s) (n : Int) : countGe l n = countGe s n := by
  unfold countGe; rw [h.countP_eq]

theorem sorted_ge {s : List Int} (hs : s.Pairwise (· ≤ ·)) {k : Nat} (hk : k < s.length) (n : Int) (h : n ≤ s[k]) : (s.length : Int) - k ≤ countGe s n := by
  have e : s = s.take k ++ s.drop k := (List.take_append_drop k s).symm
  have hd : ∀ x ∈ s.drop k, n ≤ x := by
    intro x hx
    rw [List.drop_eq_getElem_cons hk] at hx
    rcases List.mem_cons.1 hx with rfl | hx
    · exact h
    · have hp : (s.drop k).Pairwise (· ≤ ·) := hs.sublist (List.drop_sublist k s)
      rw [List.drop_eq_getElem_cons hk] at hp
      exact Int.le_trans h ((List.pairwise_cons.1 hp).1 x hx)
  have hc : (s.drop k).countP (fun x => decide (n ≤ x)) = (s.drop k).length := by
    rw [List.countP_eq_length]; intro x hx; simpa using hd x hx
  have : s.countP (fun x => decide (n ≤ x)) = (s.take k).countP (fun x => decide (n ≤ x)) + (s.drop k).countP (fun x => decide (n ≤ x)) := by
    rw [← List.countP_append, List.take_append_drop]
  have hl : (s.drop k).length = s.length - k := List.length_drop
  unfold countGe
  rw [this, hc, hl]
  omega

theorem sorted_lt {s : List Int} (hs : s.Pairwise (· ≤ ·)) {k : Nat} (hk : k < s.length) (n : Int) (h : s[k] < n) : countGe s n ≤ (s.length : Int) - k - 1 := by
  have hd : ∀ x ∈ s.take (k + 1), ¬ n ≤ x := by
    intro x hx
    rw [List.mem_take_iff_getElem] at hx
    obtain ⟨i, hi, rfl⟩ := hx
    have hik : i ≤ k := by omega
    have : s[i] ≤ s[k] := by
      rcases Nat.lt_or_eq_of_le hik with hlt | rfl
      · exact List.pairwise_iff_getElem.1 hs i k (by omega) hk hlt
      · exact Int.le_refl _
    omega
  have hc : (s.take (k + 1)).countP (fun x => decide (n ≤ x)) = 0 := by
    rw [List.countP_eq_zero]; intro x hx; simpa using hd x hx
  have e : s.countP (fun x => decide (n ≤ x)) = (s.take (k + 1)).countP (fun x => decide (n ≤ x)) + (s.drop (k + 1)).countP (fun x => decide (n ≤ x)) := by
    rw [← List.countP_append, List.take_append_drop]
  have hl : (s.drop (k + 1)).countP (fun x => decide (n ≤ x)) ≤ s.length - (k + 1) := by
    have := List.countP_le_length (p := fun x => decide (n ≤ x)) (l := s.drop (k + 1))
    rw [List.length_drop] at this; exact this
  unfold countGe
  rw [e, hc]
  omega

theorem sort_pairwise (l : List Int) : (l.mergeSort (fun a b => decide (a ≤ b))).Pairwise (· ≤ ·) := by
  have := List.pairwise_mergeSort (le := fun (a b : Int) => decide (a ≤ b)) (by intro a b c; simp; omega) (by intro a b; simp; omega) l
  simpa using this

/-- a majority has reached n exactly if n is not above the median -/
theorem median_iff {l : List Int} {c : Int} (hc : (l.length : Int) = c) (h1 : 1 ≤ c) (n : Int) :
    2 * countGe l n > c ↔ n ≤ median l ((c - 1) / 2).toNat := by
  have hk : ((c - 1) / 2).toNat < (l.mergeSort (fun a b => decide (a ≤ b))).length := by
    rw [List.length_mergeSort]; omega
  have hl : (l.mergeSort (fun a b => decide (a ≤ b))).length = l.length := List.length_mergeSort l
  have hm : median l ((c - 1) / 2).toNat = (l.mergeSort (fun a b => decide (a ≤ b)))[((c - 1) / 2).toNat] := by
    unfold median; rw [List.getD, List.getElem?_eq_getElem hk]; rfl
  rw [hm, countGe_perm (List.mergeSort_perm l (fun a b => decide (a ≤ b))).symm n]
  have hs := sort_pairwise l
  constructor
  · intro h
    refine Int.not_lt.1 fun hlt => ?_
    have := sorted_lt hs hk n hlt
    omega
  · intro h
    have := sorted_ge hs hk n h
    omega

theorem properF_iff (l : List Item) : ∀ lo hi, properF l lo hi = true ↔ (∀ x ∈ l, lo ≤ x.ep ∧ x.ep ≤ hi ∧ (x.tx.size : Int) ≤ 8000) ∧ l.Pairwise (fun a b => a.ep ≤ b.ep) := by
  induction l with
  | nil => intro lo hi; simp [properF]
  | cons x r ih =>
    intro lo hi
    unfold properF
    split
    · next h =>
      constructor
      · intro hh; cases hh
      · rintro ⟨h1, _⟩
        have := h1 x (List.mem_cons_self ..)
        omega
    · next h =>
      rw [ih]
      constructor
      · rintro ⟨h1, h2⟩
        refine ⟨?_, List.pairwise_cons.2 ⟨fun y hy => (h1 y hy).1, h2⟩⟩
        intro y hy
        rcases List.mem_cons.1 hy with rfl | hy
        · omega
        · have := h1 y hy; omega
      · rintro ⟨h1, h2⟩
        have h3 := List.pairwise_cons.1 h2
        refine ⟨fun y hy => ?_, h3.2⟩
        have := h1 y (List.mem_cons_of_mem _ hy)
        exact ⟨h3.1 y hy, this.2⟩

/-- the specification's loop that confirms: k numbers from n on; c is confirmed -/
def confLoop (log : List Item) (mat : List Int) (count epoch : Int) : Nat → Int → Int → Int
  | 0, _, c => c
  | k + 1, n, c => confLoop log mat count epoch k (n + 1) (if 2 * countGe mat n > count ∧ (log[(n - 1).toNat]?.map Item.ep) = some epoch then n else c)

theorem confLoop_law (log : List Item) (mat : List Int) (count epoch : Int) (hc : (mat.length : Int) = count) (h1 : 1 ≤ count) (hp : properF log 1 epoch = true) (hm : ∀ x ∈ mat, 0 ≤ x ∧ x ≤ log.length) :
    ∀ (k : Nat) (n c : Int), 1 ≤ n → n + k = log.length + 1 → confLoop log mat count epoch k n c =
      let s := median mat ((count - 1) / 2).toNat
      if n ≤ s ∧ lastF (log.take s.toNat) = epoch then s else c := by
  obtain ⟨hp1, hp2⟩ := (properF_iff _ _ _).1 hp
  have hs : median mat ((count - 1) / 2).toNat ≤ log.length := by
    have hk : ((count - 1) / 2).toNat < (mat.mergeSort (fun a b => decide (a ≤ b))).length := by
      rw [List.length_mergeSort]; omega
    have hme : median mat ((count - 1) / 2).toNat = (mat.mergeSort (fun a b => decide (a ≤ b)))[((count - 1) / 2).toNat] := by
      unfold median; rw [List.getD, List.getElem?_eq_getElem hk]; rfl
    rw [hme]
    exact (hm _ ((List.mergeSort_perm mat _).mem_iff.1 (List.getElem_mem hk))).2
  have hat : ∀ n : Int, 1 ≤ n → n ≤ log.length → ∃ x, log[(n - 1).toNat]? = some x ∧ lastF (log.take n.toNat) = x.ep := by
    intro n h0 h2
    have hlt : (n - 1).toNat < log.length := by omega
    refine ⟨log[(n - 1).toNat], List.getElem?_eq_getElem hlt, ?_⟩
    unfold lastF
    rw [List.getLast?_eq_getElem?, List.length_take, List.getElem?_take]
    have e : min n.toNat log.length - 1 = (n - 1).toNat := by omega
    rw [e, if_pos (by omega), List.getElem?_eq_getElem hlt]
  have hmono : ∀ (a b : Int) x y, 1 ≤ a → a ≤ b → log[(a - 1).toNat]? = some x → log[(b - 1).toNat]? = some y → x.ep ≤ y.ep := by
    intro a b x y h0 h2 hx hy
    obtain ⟨ha, rfl⟩ := List.getElem?_eq_some_iff.1 hx
    obtain ⟨hb, rfl⟩ := List.getElem?_eq_some_iff.1 hy
    rcases Nat.lt_or_eq_of_le (show (a - 1).toNat ≤ (b - 1).toNat by omega) with hlt | he
    · exact List.pairwise_iff_getElem.1 hp2 _ _ ha hb hlt
    · simp only [he]; exact Int.le_refl _
  intro k
  induction k with
  | zero =>
    intro n c h0 h2
    simp only [confLoop]
    rw [if_neg (by omega)]
  | succ k ih =>
    intro n c h0 h2
    simp only [confLoop]
    rw [ih (n + 1) _ (by omega) (by omega)]
    simp only
    have hi := median_iff hc h1 n
    generalize median mat ((count - 1) / 2).toNat = s at *
    by_cases a1 : n + 1 ≤ s ∧ lastF (log.take s.toNat) = epoch
    · rw [if_pos a1, if_pos ⟨by omega, a1.2⟩]
    · rw [if_neg a1]
      obtain ⟨x, hx, hxe⟩ := hat n h0 (by omega)
      rw [hx, Option.map_some]
      simp only [hi]
      by_cases a2 : n = s
      · subst a2
        rw [hxe]
        simp only [Option.some.injEq]
      · by_cases a3 : n ≤ s
        · have a4 : ¬ lastF (log.take s.toNat) = epoch := fun h => a1 ⟨by omega, h⟩
          rw [if_neg (c := n ≤ s ∧ lastF (List.take s.toNat log) = epoch) (fun h => a4 h.2)]
          rw [if_neg]
          rintro ⟨_, h⟩
          obtain ⟨y, hy, hye⟩ := hat s (by omega) hs
          have := hmono n s x y h0 a3 hx hy
          have h3 := hp1 y (List.mem_of_getElem? hy)
          simp only [Option.some.injEq] at h
          omega
        · rw [if_neg (fun h => a3 h.1), if_neg (fun h => a3 h.1)]

theorem settleF_loop (r : Rep) (hc : (r.mat.length : Int) = r.count) (h2 : 2 ≤ r.count) (hp : properF r.log 1 r.epoch = true) (hm : ∀ x ∈ r.mat, 0 ≤ x ∧ x ≤ r.log.length) (hf0 : 0 ≤ r.conf) (hf : r.conf ≤ r.log.length) :
    settleF r = { r with conf := confLoop r.log r.mat r.count r.epoch (r.log.length - r.conf.toNat) (r.conf + 1) r.conf } := by
  rw [confLoop_law _ _ _ _ hc (by omega) hp hm _ _ _ (by omega) (by omega)]
  unfold settleF
  rw [if_neg (by omega)]
  dsimp only
  by_cases h : median r.mat ((r.count - 1) / 2).toNat > r.conf ∧ lastF (r.log.take (median r.mat ((r.count - 1) / 2).toNat).toNat) = r.epoch
  · rw [if_pos h, if_pos ⟨by omega, h.2⟩]
  · rw [if_neg h, if_neg (fun x => h ⟨by omega, x.2⟩)]

/-- a new leader confirms nothing, but alone -/
theorem settleF_lead (r : Rep) (n j : Nat) (hn : r.count = n) (hj : j < n) (hf0 : 0 ≤ r.conf) (hm : r.mat = (List.replicate n (0 : Int)).set j (r.log.length : Int)) :
    settleF r = if r.count = 1 then { r with conf := r.log.length } else r := by
  unfold settleF
  split
  · rfl
  · next h1 =>
    simp only
    rw [if_neg]
    rintro ⟨h, _⟩
    have hl : (r.mat.length : Int) = r.count := by rw [hm, hn]; simp
    have := (median_iff hl (by omega) 1).2 (by omega)
    have hc : countGe r.mat 1 ≤ 1 := by
      unfold countGe
      rw [hm]
      have : ∀ (n j : Nat) (x : Int), ((List.replicate n (0 : Int)).set j x).countP (fun x => decide (1 ≤ x)) ≤ 1 := by
        intro n
        induction n with
        | zero => intro j x; simp
        | succ n ih =>
          intro j x
          cases j with
          | zero => simp only [List.replicate_succ, List.set_cons_zero, List.countP_cons, List.countP_replicate]; simp; split <;> omega
          | succ j => simp only [List.replicate_succ, List.set_cons_succ, List.countP_cons]; have := ih j x; simp; omega
      have := this n j r.log.length
      omega
    omega

/-- the specification's loop that appends -/
def cutOff (l : List Item) (k : Nat) (x : Item) : List Item := match l[k]? with
  | none => l
  | some y => if y.ep = x.ep then l else l.take k
def addOn (l : List Item) (k : Nat) (x : Item) : List Item := if k < l.length then l else l ++ [x]
def appLoop (pos : Nat) : List Item → Nat → List Item → List Item
  | [], _, l => l
  | x :: r, i, l => appLoop pos r (i + 1) (addOn (cutOff l (pos + i) x) (pos + i) x)

theorem appLoop_end (pos : Nat) : ∀ (xs : List Item) (i : Nat) (l : List Item), l.length = pos + i → appLoop pos xs i l = l ++ xs := by
  intro xs
  induction xs with
  | nil => intro i l h; simp [appLoop]
  | cons x r ih =>
    intro i l h
    have e : l[pos + i]? = none := by rw [List.getElem?_eq_none_iff]; omega
    have e1 : addOn (cutOff l (pos + i) x) (pos + i) x = l ++ [x] := by
      unfold cutOff addOn; rw [e]; simp only; rw [if_neg (by omega)]
    simp only [appLoop]
    rw [e1, ih (i + 1) _ (by simp; omega)]
    simp

theorem appLoop_law (pos : Nat) : ∀ (xs : List Item) (i : Nat) (l : List Item), pos + i ≤ l.length →
    ∀ s, s = sameF (l.drop (pos + i)) xs → appLoop pos xs i l = if s < xs.length then l.take (pos + i + s) ++ xs.drop s else l := by
  intro xs
  induction xs with
  | nil => intro i l h s hs; simp [appLoop]
  | cons x r ih =>
    intro i l h s hs
    simp only [appLoop]
    by_cases hl : pos + i < l.length
    · obtain ⟨y, hy⟩ : ∃ y, l[pos + i]? = some y := ⟨l[pos + i], List.getElem?_eq_getElem hl⟩
      have hd : l.drop (pos + i) = y :: l.drop (pos + i + 1) := by
        rw [List.drop_eq_getElem_cons hl, (List.getElem?_eq_some_iff.1 hy).2]
      rw [hd] at hs
      unfold sameF at hs
      by_cases he : y.ep = x.ep
      · rw [if_pos he] at hs
        have e1 : addOn (cutOff l (pos + i) x) (pos + i) x = l := by
          unfold cutOff addOn; rw [hy]; simp only; rw [if_pos he, if_pos hl]
        rw [e1, ih (i + 1) l (by omega) _ rfl, hs]
        simp only [List.length_cons, Nat.add_lt_add_iff_right, List.drop_succ_cons, ← Nat.add_assoc]
        rw [show pos + i + 1 + sameF (List.drop (pos + i + 1) l) r = pos + i + sameF (List.drop (pos + i + 1) l) r + 1 by omega]
      · rw [if_neg he] at hs
        subst hs
        have e1 : addOn (cutOff l (pos + i) x) (pos + i) x = l.take (pos + i) ++ [x] := by
          unfold cutOff addOn; rw [hy]; simp only; rw [if_neg he, if_neg (by rw [List.length_take]; omega)]
        rw [e1, appLoop_end pos r (i + 1) _ (by simp; omega)]
        simp
    · have e : l[pos + i]? = none := by rw [List.getElem?_eq_none_iff]; omega
      have hd : l.drop (pos + i) = [] := List.drop_eq_nil_iff.2 (by omega)
      have e1 : addOn (cutOff l (pos + i) x) (pos + i) x = l ++ [x] := by
        unfold cutOff addOn; rw [e]; simp only; rw [if_neg hl]
      rw [hd] at hs
      simp only [sameF] at hs
      subst hs
      rw [e1, appLoop_end pos r (i + 1) _ (by simp; omega), if_pos (by simp), List.take_of_length_le (by omega)]
      simp

theorem appendLog_loop (r : Rep) (m : Let) (h0 : 0 ≤ m.pos) (h : m.pos ≤ r.log.length) : appendLog r m = appLoop m.pos.toNat m.items 0 r.log := by
  rw [appLoop_law _ _ _ _ (by omega) _ rfl]
  unfold appendLog
  simp only [Nat.add_zero]
end Go.Proofs.YtgohploghbimlaaDoor

/- Plain laws: what the program does keeps replicas valid. -/
namespace Go.Proofs.YtgohploghbimlaaDoor

theorem Valid.leadF {r : Rep} (c1 : 1 ≤ r.count) (c7 : r.count ≤ 7) (i0 : 0 ≤ r.id) (i1 : r.id < r.count) (e0 : 0 < r.epoch) (e1 : r.epoch ≤ 1073741824)
    (v : r.voted = r.id) (len : r.log.length ≤ 1000) (f0 : 0 ≤ r.conf) (f1 : r.conf ≤ r.log.length) (p : properF r.log 1 r.epoch = true) : Valid (leadF r).1 := by
  obtain ⟨n, hn⟩ := Int.eq_ofNat_of_zero_le (show 0 ≤ r.count by omega)
  obtain ⟨j, hj⟩ := Int.eq_ofNat_of_zero_le i0
  unfold Proofs.YtgohploghbimlaaDoor.leadF
  simp only
  have hb : ∀ x ∈ (List.replicate r.count.toNat (0 : Int)).set r.id.toNat (r.log.length : Int), 0 ≤ x ∧ x ≤ (r.log.length : Int) := by
    intro x hx
    rcases List.mem_or_eq_of_mem_set hx with h | h
    · rw [List.mem_replicate] at h; omega
    · omega
  rw [settleF_lead { r with role := 3, votes := [], mat := (List.replicate r.count.toNat 0).set r.id.toNat r.log.length } n j hn (by omega) f0 (by simp [hn, hj])]
  split
  · exact ⟨c1, c7, i0, i1, by dsimp only; omega, e1, by dsimp only; omega, by dsimp only; omega, by dsimp only; omega, by dsimp only; omega, len, by dsimp only; omega, by dsimp only; omega, p, by simp, by simp; omega, hb, .inr ⟨v, e0⟩⟩
  · exact ⟨c1, c7, i0, i1, by dsimp only; omega, e1, by dsimp only; omega, by dsimp only; omega, by dsimp only; omega, by dsimp only; omega, len, f0, f1, p, by simp, by simp; omega, hb, .inr ⟨v, e0⟩⟩

theorem properF_hi {l : List Item} {lo a b : Int} (h : properF l lo a = true) (hab : a ≤ b) : properF l lo b = true := by
  obtain ⟨h1, h2⟩ := (properF_iff _ _ _).1 h
  exact (properF_iff _ _ _).2 ⟨fun x hx => by have := h1 x hx; omega, h2⟩

theorem Valid.timeoutF {r : Rep} (h : Valid r) : Valid (timeoutF r).1 := by
  unfold Proofs.YtgohploghbimlaaDoor.timeoutF
  split
  · exact h
  split
  · exact h
  next h3 he =>
  simp only
  have := h.ep0
  split
  · exact Valid.leadF h.count1 h.count7 h.id0 h.id1 (by dsimp only; omega) (by dsimp only; omega) rfl h.len h.cf0 h.cf1 (properF_hi h.prop (by dsimp only; omega))
  · have hm := h.mat
    rw [if_neg h3] at hm
    have c1 := h.count1
    exact ⟨h.count1, h.count7, h.id0, h.id1, by dsimp only; omega, by dsimp only; omega, by have := h.id0; dsimp only; omega, h.id1, by dsimp only; omega, by dsimp only; omega, h.len, h.cf0, h.cf1, properF_hi h.prop (by dsimp only; omega), by simp; omega, by simpa using hm, h.match_, .inr ⟨rfl, by dsimp only; omega⟩⟩

/-- what a letter that is looked at has -/
theorem fineF_out {r : Rep} {m : Let} (h : fineF r m = true) : 1 ≤ m.kind ∧ m.kind ≤ 4 ∧ m.dst = r.id ∧ 0 ≤ m.src ∧ m.src < r.count ∧ m.src ≠ r.id ∧ 1 ≤ m.ep ∧ m.ep ≤ 1073741824 ∧
    (m.kind ≠ 2 → 0 ≤ m.pos ∧ m.pos ≤ 1000) ∧ (m.kind = 3 → 0 ≤ m.aep ∧ m.aep ≤ m.ep ∧ (m.pos > 0 ∨ m.aep = 0) ∧ m.pos + m.items.length ≤ 1000 ∧ 0 ≤ m.conf ∧ properF m.items (max 1 m.aep) m.ep = true) := by
  unfold fineF at h
  split at h
  · cases h
  split at h
  · next h2 => refine ⟨by omega, by omega, by omega, by omega, by omega, by omega, by omega, by omega, fun x => absurd h2 x, fun x => by omega⟩
  split at h
  · cases h
  split at h
  · next h3 => refine ⟨by omega, by omega, by omega, by omega, by omega, by omega, by omega, by omega, fun x => by omega, fun x => absurd x h3⟩
  · simp only [Bool.and_eq_true, decide_eq_true_eq] at h
    exact ⟨by omega, by omega, by omega, by omega, by omega, by omega, by omega, by omega, fun x => by omega, fun x => ⟨h.1.1, h.1.2.1, h.1.2.2.1, h.1.2.2.2.1, h.1.2.2.2.2, h.2⟩⟩

theorem lastF_le {l : List Item} {e : Int} (h : ∀ x ∈ l, x.ep ≤ e) (h0 : 0 ≤ e) : lastF l ≤ e := by
  unfold lastF
  split
  · exact h0
  · next x hx => exact h x (List.mem_of_getLast? hx)

theorem properF_append {a b : List Item} {e : Int} (ha : properF a 1 e = true) (hb : properF b (max 1 (lastF a)) e = true) : properF (a ++ b) 1 e = true := by
  obtain ⟨a1, a2⟩ := (properF_iff _ _ _).1 ha
  obtain ⟨b1, b2⟩ := (properF_iff _ _ _).1 hb
  refine (properF_iff _ _ _).2 ⟨?_, List.pairwise_append.2 ⟨a2, b2, ?_⟩⟩
  · intro x hx
    rcases List.mem_append.1 hx with h | h
    · exact a1 x h
    · have := b1 x h; omega
  · intro x hx y hy
    have h1 := (b1 y hy).1
    have h2 : x.ep ≤ lastF a := by
      unfold lastF
      split
      · next h => rw [List.getLast?_eq_none_iff] at h; subst h; cases hx
      · next z hz =>
        obtain ⟨ys, rfl⟩ := List.getLast?_eq_some_iff.1 hz
        rcases List.mem_append.1 hx with h | h
        · exact (List.pairwise_append.1 a2).2.2 x h z (by simp)
        · simp at h; rw [h]; exact Int.le_refl _
    omega

theorem properF_take {a : List Item} {lo e : Int} (h : properF a lo e = true) (n : Nat) : properF (a.take n) lo e = true := by
  obtain ⟨a1, a2⟩ := (properF_iff _ _ _).1 h
  exact (properF_iff _ _ _).2 ⟨fun x hx => a1 x (List.mem_of_mem_take hx), a2.sublist (List.take_sublist n a)⟩
theorem properF_drop {a : List Item} {lo e : Int} (h : properF a lo e = true) (n : Nat) : properF (a.drop n) lo e = true := by
  obtain ⟨a1, a2⟩ := (properF_iff _ _ _).1 h
  exact (properF_iff _ _ _).2 ⟨fun x hx => a1 x (List.mem_of_mem_drop hx), a2.sublist (List.drop_sublist n a)⟩

theorem sameF_le : ∀ (l i : List Item), sameF l i ≤ i.length ∧ sameF l i ≤ l.length := by
  intro l
  induction l with
  | nil => intro i; simp [sameF]
  | cons x l ih =>
    intro i
    cases i with
    | nil => simp [sameF]
    | cons y i =>
      simp only [sameF]
      split
      · have := ih i; simp; omega
      · simp

theorem sameF_eps : ∀ (l i : List Item), (l.take (sameF l i)).map Item.ep = (i.take (sameF l i)).map Item.ep := by
  intro l
  induction l with
  | nil => intro i; simp [sameF]
  | cons x l ih =>
    intro i
    cases i with
    | nil => simp [sameF]
    | cons y i =>
      simp only [sameF]
      split
      · next h => simp only [List.take_succ_cons, List.map_cons, ih i, h]
      · simp

theorem appendLog_proper {r : Rep} {m : Let} (hv : properF r.log 1 r.epoch = true) (hp : 0 ≤ m.pos) (hl : m.pos ≤ r.log.length) (ha : lastF (r.log.take m.pos.toNat) = m.aep)
    (hi : properF m.items (max 1 m.aep) m.ep = true) (he : m.ep = r.epoch) : properF (appendLog r m) 1 r.epoch = true := by
  unfold appendLog
  simp only
  split
  · next hs =>
    have hle := sameF_le (r.log.drop m.pos.toNat) m.items
    have heq := sameF_eps (r.log.drop m.pos.toNat) m.items
    generalize sameF (r.log.drop m.pos.toNat) m.items = s at *
    refine properF_append (properF_take hv _) ?_
    rw [he] at hi
    have hd := properF_drop hi s
    obtain ⟨d1, d2⟩ := (properF_iff _ _ _).1 hd
    refine (properF_iff _ _ _).2 ⟨?_, d2⟩
    intro x hx
    have h1 := d1 x hx
    refine ⟨?_, h1.2⟩
    suffices h : lastF (r.log.take (m.pos.toNat + s)) ≤ x.ep by omega
    by_cases h0 : s = 0
    · subst h0; rw [Nat.add_zero, ha]; omega
    · have hlp : m.pos.toNat + s - 1 < r.log.length := by rw [List.length_drop] at hle; omega
      have e1 : lastF (r.log.take (m.pos.toNat + s)) = (r.log[m.pos.toNat + s - 1]).ep := by
        unfold lastF
        rw [List.getLast?_eq_getElem?, List.length_take, List.getElem?_take]
        rw [show min (m.pos.toNat + s) r.log.length - 1 = m.pos.toNat + s - 1 by omega, if_pos (by omega), List.getElem?_eq_getElem hlp]
      rw [e1]
      have e2 := congrArg (fun l => l[s - 1]?) heq
      simp only [List.getElem?_map, List.getElem?_take, List.getElem?_drop] at e2
      rw [if_pos (by omega), if_pos (by omega), show m.pos.toNat + (s - 1) = m.pos.toNat + s - 1 by omega, List.getElem?_eq_getElem hlp, List.getElem?_eq_getElem (show s - 1 < m.items.length by omega)] at e2
      simp only [Option.map_some, Option.some.injEq] at e2
      rw [e2]
      obtain ⟨i1, i2⟩ := (properF_iff _ _ _).1 hi
      obtain ⟨k, hk, rfl⟩ := List.getElem_of_mem hx
      rw [List.length_drop] at hk
      rw [List.getElem_drop]
      exact List.pairwise_iff_getElem.1 i2 _ _ (by omega) (by omega) (by omega)
  · exact hv

theorem appendLog_len {r : Rep} {m : Let} (hp : 0 ≤ m.pos) (hl : m.pos ≤ r.log.length) : m.pos + m.items.length ≤ ((appendLog r m).length : Int) ∧ ((appendLog r m).length : Int) ≤ max (r.log.length : Int) (m.pos + m.items.length) := by
  have hle := sameF_le (r.log.drop m.pos.toNat) m.items
  unfold appendLog
  simp only
  generalize sameF (r.log.drop m.pos.toNat) m.items = s at *
  rw [List.length_drop] at hle
  split
  · simp only [List.length_append, List.length_take, List.length_drop]; omega
  · omega

theorem Valid.follow {r : Rep} (h : Valid r) : Valid (followF r) := by
  exact ⟨h.count1, h.count7, h.id0, h.id1, h.ep0, h.ep1, h.vo0, h.vo1, by simp [followF], by simp [followF], h.len, h.cf0, h.cf1, h.prop, by simp [followF], by simp [followF], by simp [followF], .inl rfl⟩

theorem Valid.settle {r : Rep} (h : Valid r) (h3 : r.role = 3) : Valid (settleF r) := by
  have hm := h.mat
  rw [if_pos h3] at hm
  have c1 := h.count1
  unfold settleF
  split
  · exact ⟨h.count1, h.count7, h.id0, h.id1, h.ep0, h.ep1, h.vo0, h.vo1, h.ro0, h.ro1, h.len, by dsimp only; omega, by dsimp only; omega, h.prop, h.votes, h.mat, h.match_, h.lead⟩
  · simp only
    split
    · next h1 =>
      have hk : ((r.count - 1) / 2).toNat < (r.mat.mergeSort (fun a b => decide (a ≤ b))).length := by
        rw [List.length_mergeSort]; omega
      have hme : median r.mat ((r.count - 1) / 2).toNat = (r.mat.mergeSort (fun a b => decide (a ≤ b)))[((r.count - 1) / 2).toNat] := by
        unfold median; rw [List.getD, List.getElem?_eq_getElem hk]; rfl
      have hb := h.match_ _ ((List.mergeSort_perm r.mat (fun a b => decide (a ≤ b))).mem_iff.1 (List.getElem_mem hk))
      rw [← hme] at hb
      exact ⟨h.count1, h.count7, h.id0, h.id1, h.ep0, h.ep1, h.vo0, h.vo1, h.ro0, h.ro1, h.len, hb.1, hb.2, h.prop, h.votes, h.mat, h.match_, h.lead⟩
    · exact h

theorem Valid.handleF {r : Rep} {m : Let} (h0 : Valid r) : Valid (handleF r m).1 := by
  unfold Proofs.YtgohploghbimlaaDoor.handleF
  split
  · exact h0
  next hf =>
  obtain ⟨f1, f2, f3, f4, f5, f6, f7, f8, f9, f10⟩ := fineF_out (by simpa using hf)
  simp only
  obtain ⟨r1, hr1⟩ : ∃ r1 : Rep, r1 = if m.ep > r.epoch then { followF r with epoch := m.ep, voted := -1 } else r := ⟨_, rfl⟩
  rw [← hr1]
  have h : Valid r1 ∧ r1.count = r.count ∧ r1.id = r.id ∧ m.ep ≤ r1.epoch := by
    rw [hr1]
    split
    · next hgt =>
      have hv := h0.follow
      have := h0.count1
      have := h0.ep0
      exact ⟨⟨hv.count1, hv.count7, hv.id0, hv.id1, by dsimp only; omega, f8, by dsimp only; omega, by dsimp only [followF]; omega, hv.ro0, hv.ro1, hv.len, hv.cf0, hv.cf1, properF_hi hv.prop (by dsimp only [followF]; omega), hv.votes, hv.mat, hv.match_, .inl rfl⟩, rfl, rfl, Int.le_refl _⟩
    · exact ⟨h0, rfl, rfl, by omega⟩
  obtain ⟨h, hcc, hii, hee⟩ := h
  clear hr1 h0 hf
  split
  · unfold askF
    simp only
    split
    · next hy =>
      simp only [askYes, decide_eq_true_eq] at hy
      refine ⟨h.count1, h.count7, h.id0, h.id1, h.ep0, h.ep1, by dsimp only; omega, by dsimp only; omega, h.ro0, h.ro1, h.len, h.cf0, h.cf1, h.prop, h.votes, h.mat, h.match_, ?_⟩
      rcases h.lead with h1 | ⟨h1, h2⟩
      · exact .inl h1
      · have := h.id0
        refine .inr ⟨?_, h2⟩
        dsimp only
        rcases hy.2.1 with h3 | h3 <;> omega
    · exact h
  split
  · unfold voteF
    split
    · exact h
    next hn =>
    simp only
    have hr2 : r1.role = 2 := by omega
    have hl : r1.voted = r1.id ∧ 0 < r1.epoch := by
      rcases h.lead with h1 | h1
      · omega
      · exact h1
    split
    · exact Valid.leadF h.count1 h.count7 h.id0 h.id1 hl.2 h.ep1 hl.1 h.len h.cf0 h.cf1 h.prop
    · exact ⟨h.count1, h.count7, h.id0, h.id1, h.ep0, h.ep1, h.vo0, h.vo1, h.ro0, h.ro1, h.len, h.cf0, h.cf1, h.prop, by simpa using h.votes, h.mat, h.match_, h.lead⟩
  split
  · next hk =>
    unfold appendF
    split
    · exact h
    split
    · exact h
    next hle hr3 =>
    simp only
    split
    · exact h.follow
    next hn =>
    obtain ⟨g1, g2, g3, g4, g5, g6⟩ := f10 hk
    have g7 := f9 (by omega)
    have hv := h.follow
    have hpos : m.pos ≤ r1.log.length := by omega
    have hlen := appendLog_len g7.1 hpos
    have hll := h.len
    have hc0 := h.cf0
    have hep : m.ep = r1.epoch := by omega
    have hlast : lastF (r1.log.take m.pos.toNat) = m.aep := by
      rcases Decidable.em (lastF (r1.log.take m.pos.toNat) = m.aep) with h1 | h1
      · exact h1
      · exact absurd (.inr h1) hn
    have hpr := appendLog_proper h.prop g7.1 hpos hlast g6 hep
    refine ⟨h.count1, h.count7, h.id0, h.id1, h.ep0, h.ep1, h.vo0, h.vo1, hv.ro0, hv.ro1, by dsimp only; omega, by dsimp only [followF]; omega, by dsimp only; omega, hpr, by simp [followF], by simp [followF], by simp [followF], .inl rfl⟩
  · unfold replyF
    split
    · exact h
    next hn =>
    simp only
    have hr3 : r1.role = 3 := by omega
    have hv : Valid { r1 with mat := r1.mat.set m.src.toNat (max (r1.mat.getD m.src.toNat 0) (min m.pos r1.log.length)) } := by
      refine ⟨h.count1, h.count7, h.id0, h.id1, h.ep0, h.ep1, h.vo0, h.vo1, h.ro0, h.ro1, h.len, h.cf0, h.cf1, h.prop, h.votes, by simpa using h.mat, ?_, h.lead⟩
      intro x hx
      dsimp only
      have hm := h.mat
      rw [if_pos hr3] at hm
      rcases List.mem_or_eq_of_mem_set hx with h1 | h1
      · exact h.match_ x h1
      · have hlt : m.src.toNat < r1.mat.length := by omega
        have := h.match_ _ (List.getElem_mem hlt)
        rw [List.getD, List.getElem?_eq_getElem hlt, Option.getD_some] at h1
        have := f9 (by omega)
        omega
    exact hv.settle hr3

theorem Valid.restartF {r : Rep} (h : Valid r) : Valid (restartF r) := by
  exact ⟨h.count1, h.count7, h.id0, h.id1, h.ep0, h.ep1, h.vo0, h.vo1, by simp [Proofs.YtgohploghbimlaaDoor.restartF, followF], by simp [Proofs.YtgohploghbimlaaDoor.restartF, followF], h.len, by simp [Proofs.YtgohploghbimlaaDoor.restartF], by simp [Proofs.YtgohploghbimlaaDoor.restartF], h.prop, by simp [Proofs.YtgohploghbimlaaDoor.restartF, followF], by simp [Proofs.YtgohploghbimlaaDoor.restartF, followF], by simp [Proofs.YtgohploghbimlaaDoor.restartF, followF], .inl rfl⟩

theorem Valid.proposeF {r : Rep} {t : ByteArray} (h : Valid r) : Valid (proposeF r t).1 := by
  unfold Proofs.YtgohploghbimlaaDoor.proposeF
  split
  · exact h
  split
  · exact h
  next h3 hs =>
  simp only
  have h3' : r.role = 3 := by omega
  have hm := h.mat
  rw [if_pos h3'] at hm
  have hl : r.voted = r.id ∧ 0 < r.epoch := by
    rcases h.lead with h1 | h1
    · omega
    · exact h1
  have hll := h.len
  have hc0 := h.cf0
  have hc1 := h.cf1
  have hp : properF (r.log ++ [⟨r.epoch, t⟩]) 1 r.epoch = true := by
    refine properF_append h.prop ?_
    obtain ⟨p1, p2⟩ := (properF_iff _ _ _).1 h.prop
    have := lastF_le (fun x hx => (p1 x hx).2.1) (by omega : (0 : Int) ≤ r.epoch)
    refine (properF_iff _ _ _).2 ⟨?_, List.pairwise_singleton _ _⟩
    intro x hx
    simp at hx
    subst hx
    dsimp only
    omega
  have hv : Valid { r with log := r.log ++ [(⟨r.epoch, t⟩ : Item)], mat := r.mat.set r.id.toNat ((r.log ++ [(⟨r.epoch, t⟩ : Item)]).length : Nat) } := by
    refine ⟨h.count1, h.count7, h.id0, h.id1, h.ep0, h.ep1, h.vo0, h.vo1, h.ro0, h.ro1, by simp; omega, h.cf0, by simp; omega, hp, h.votes, by simpa using h.mat, ?_, h.lead⟩
    intro x hx
    simp only [List.length_append, List.length_cons, List.length_nil] at hx ⊢
    rcases List.mem_or_eq_of_mem_set hx with h1 | h1
    · have := h.match_ x h1; omega
    · omega
  split
  · exact hv.settle h3'
  · exact hv

theorem Valid.newF {i n : Int} (h0 : 0 ≤ i) (h1 : i < n) (h7 : n ≤ 7) : Valid ⟨i, n, 0, -1, 1, [], 0, [], []⟩ := by
  constructor <;> simp [properF] <;> omega
end Go.Proofs.YtgohploghbimlaaDoor

/- Plain laws: worlds of replicas and letters. -/
namespace Go.Proofs.YtgohploghbimlaaDoor

/-- number, count are kept; letters go to replicas that there are -/
def Keeps (r : Rep) (p : Rep × List Let) : Prop := p.1.id = r.id ∧ p.1.count = r.count ∧ ∀ m ∈ p.2, 0 ≤ m.dst ∧ m.dst < r.count

theorem settleF_same (r : Rep) : (settleF r).id = r.id ∧ (settleF r).count = r.count := by
  unfold settleF
  split
  · exact ⟨rfl, rfl⟩
  · simp only
    split <;> exact ⟨rfl, rfl⟩
theorem othersF_in {n : Nat} {id k : Int} (h : k ∈ othersF n id) : 0 ≤ k ∧ k < n := by
  unfold othersF at h
  rw [List.mem_filter, List.mem_map] at h
  obtain ⟨⟨i, hi, rfl⟩, _⟩ := h
  rw [List.mem_range] at hi
  omega
theorem to_others {n : Int} (h1 : 1 ≤ n) {id : Int} {f : Int → Let} (hf : ∀ k, (f k).dst = k) : ∀ m ∈ (othersF n.toNat id).map f, 0 ≤ m.dst ∧ m.dst < n := by
  intro m hm
  obtain ⟨k, hk, rfl⟩ := List.mem_map.1 hm
  have := othersF_in hk
  rw [hf]
  omega
theorem Keeps.nil (r : Rep) : Keeps r (r, []) := ⟨rfl, rfl, by simp⟩
theorem Keeps.leadF {r q : Rep} (h1 : 1 ≤ q.count) (hi : r.id = q.id) (hc : r.count = q.count) : Keeps q (leadF r) := by
  unfold Proofs.YtgohploghbimlaaDoor.leadF
  simp only
  obtain ⟨a, b⟩ := settleF_same { r with role := 3, votes := [], mat := (List.replicate r.count.toNat 0).set r.id.toNat r.log.length }
  refine ⟨by rw [a]; exact hi, by rw [b]; exact hc, ?_⟩
  rw [hc]
  exact to_others h1 (fun k => rfl)
theorem Keeps.timeoutF {r : Rep} (h1 : 1 ≤ r.count) : Keeps r (timeoutF r) := by
  unfold Proofs.YtgohploghbimlaaDoor.timeoutF
  split
  · exact ⟨rfl, rfl, to_others h1 (fun k => rfl)⟩
  split
  · exact .nil r
  simp only
  split
  · exact .leadF h1 rfl rfl
  · exact ⟨rfl, rfl, to_others h1 (fun k => rfl)⟩
theorem Keeps.handleF {r : Rep} {m : Let} (h1 : 1 ≤ r.count) : Keeps r (handleF r m) := by
  unfold Proofs.YtgohploghbimlaaDoor.handleF
  split
  · exact .nil r
  next hf =>
  obtain ⟨f1, f2, f3, f4, f5, f6, f7, f8, f9, f10⟩ := fineF_out (by simpa using hf)
  simp only
  obtain ⟨r1, hr1⟩ : ∃ r1 : Rep, r1 = if m.ep > r.epoch then { followF r with epoch := m.ep, voted := -1 } else r := ⟨_, rfl⟩
  rw [← hr1]
  have h : r1.count = r.count ∧ r1.id = r.id := by
    rw [hr1]
    split <;> exact ⟨rfl, rfl⟩
  obtain ⟨hc, hi⟩ := h
  clear hr1 hf
  split
  · unfold askF
    refine ⟨?_, ?_, by intro x hx; simp at hx; subst hx; exact ⟨f4, f5⟩⟩
    · dsimp only; split <;> exact hi
    · dsimp only; split <;> exact hc
  split
  · unfold voteF
    split
    · exact ⟨hi, hc, by simp⟩
    dsimp only
    split
    · exact .leadF h1 hi hc
    · exact ⟨hi, hc, by simp⟩
  split
  · unfold appendF
    split
    · exact ⟨hi, hc, by intro x hx; simp [refusal] at hx; subst hx; exact ⟨f4, f5⟩⟩
    split
    · exact ⟨hi, hc, by simp⟩
    split
    · exact ⟨hi, hc, by intro x hx; simp [refusal] at hx; subst hx; exact ⟨f4, f5⟩⟩
    · exact ⟨hi, hc, by intro x hx; simp at hx; subst hx; exact ⟨f4, f5⟩⟩
  · unfold replyF
    split
    · exact ⟨hi, hc, by simp⟩
    simp only
    refine ⟨(settleF_same _).1.trans hi, (settleF_same _).2.trans hc, ?_⟩
    split
    · intro x hx; simp at hx; subst hx; exact ⟨f4, f5⟩
    · simp
theorem Keeps.proposeF {r : Rep} {t : ByteArray} (h1 : 1 ≤ r.count) : Keeps r ((proposeF r t).1, (proposeF r t).2.1) := by
  unfold Proofs.YtgohploghbimlaaDoor.proposeF
  split
  · exact ⟨rfl, rfl, by simp⟩
  split
  · exact ⟨rfl, rfl, by simp⟩
  simp only
  split
  · exact ⟨(settleF_same _).1, (settleF_same _).2, to_others h1 (fun k => rfl)⟩
  · exact ⟨rfl, rfl, to_others h1 (fun k => rfl)⟩

/-- replicas, and all letters that were ever sent -/
structure WS where
  reps : List Rep
  lets : List Let

def stepF (s : WS) (i : Nat) (p : Rep × List Let) : WS := ⟨s.reps.set i p.1, s.lets ++ p.2⟩

/-- an event: its kind, replica, number (text: the number's text) -/
def playF (itoa : Int → ByteArray) (s : WS) (kind a b : Int) : WS :=
  if a < 0 ∨ a ≥ s.reps.length then s
  else if kind = 1 then match s.reps[a.toNat]? with | some r => stepF s a.toNat (timeoutF r) | none => s
  else if kind = 2 then
    if b < 0 ∨ b ≥ s.lets.length then s
    else match s.lets[b.toNat]? with
      | some m => match s.reps[m.dst.toNat]? with | some r => stepF s m.dst.toNat (handleF r m) | none => s
      | none => s
  else if kind = 3 then match s.reps[a.toNat]? with | some r => stepF s a.toNat ((proposeF r (itoa b)).1, (proposeF r (itoa b)).2.1) | none => s
  else if kind = 4 then match s.reps[a.toNat]? with | some r => stepF s a.toNat (restartF r, []) | none => s
  else s

structure WInv (n : Nat) (s : WS) : Prop where
  len : s.reps.length = n
  rep : ∀ (k : Nat) (r : Rep), s.reps[k]? = some r → Valid r ∧ r.id = k ∧ r.count = n
  lets : ∀ m ∈ s.lets, 0 ≤ m.dst ∧ m.dst < n

theorem WInv.step {n : Nat} {s : WS} (h : WInv n s) {i : Nat} {r : Rep} (hi : s.reps[i]? = some r) {p : Rep × List Let} (hv : Valid p.1) (hk : Keeps r p) : WInv n (stepF s i p) := by
  obtain ⟨v, e1, e2⟩ := h.rep i r hi
  obtain ⟨k1, k2, k3⟩ := hk
  refine ⟨by simpa [stepF] using h.len, ?_, ?_⟩
  · intro k q hq
    simp only [stepF, List.getElem?_set] at hq
    split at hq
    · next hik =>
      subst hik
      split at hq
      · simp only [Option.some.injEq] at hq
        subst hq
        exact ⟨hv, by rw [k1, e1], by rw [k2, e2]⟩
      · cases hq
    · exact h.rep k q hq
  · intro m hm
    simp only [stepF, List.mem_append] at hm
    rcases hm with hm | hm
    · exact h.lets m hm
    · have := k3 m hm; omega

theorem WInv.played {n : Nat} {s : WS} (h : WInv n s) (itoa : Int → ByteArray) (kind a b : Int) : WInv n (playF itoa s kind a b) := by
  unfold Proofs.YtgohploghbimlaaDoor.playF
  split
  · exact h
  split
  · split
    · next r hr => exact h.step hr (h.rep _ _ hr).1.timeoutF (.timeoutF (h.rep _ _ hr).1.count1)
    · exact h
  split
  · split
    · exact h
    split
    · next m hm =>
      split
      · next r hr => exact h.step hr (h.rep _ _ hr).1.handleF (.handleF (h.rep _ _ hr).1.count1)
      · exact h
    · exact h
  split
  · split
    · next r hr => exact h.step hr (h.rep _ _ hr).1.proposeF (.proposeF (h.rep _ _ hr).1.count1)
    · exact h
  split
  · split
    · next r hr => exact h.step hr (h.rep _ _ hr).1.restartF ⟨rfl, rfl, by simp⟩
    · exact h
  · exact h
end Go.Proofs.YtgohploghbimlaaDoor

/- Plain laws: letters bear at most 50 items. -/
namespace Go.Proofs.YtgohploghbimlaaDoor
def Short (p : Rep × List Let) : Prop := ∀ m ∈ p.2, m.items.length ≤ 50
theorem logLet_short (r : Rep) (k : Int) : (logLet r k).items.length ≤ 50 := by
  unfold logLet
  simp only [List.length_drop, List.length_take]
  omega
theorem log_short (r : Rep) (ks : List Int) : ∀ m ∈ ks.map (logLet r), m.items.length ≤ 50 := by
  intro m hm
  obtain ⟨k, _, rfl⟩ := List.mem_map.1 hm
  exact logLet_short r k
theorem leadF_short (r : Rep) : Short (leadF r) := log_short _ _
theorem timeoutF_short (r : Rep) : Short (timeoutF r) := by
  unfold timeoutF
  split
  · exact log_short _ _
  split
  · intro m hm; simp at hm
  simp only
  split
  · exact leadF_short _
  · intro m hm
    obtain ⟨k, _, rfl⟩ := List.mem_map.1 hm
    simp
theorem handleF_short (r : Rep) (m : Let) : Short (handleF r m) := by
  unfold handleF
  split
  · intro x hx; simp at hx
  simp only
  generalize (if m.ep > r.epoch then ({ followF r with epoch := m.ep, voted := -1 } : Rep) else r) = r1
  split
  · intro x hx; simp [askF] at hx; subst hx; simp
  split
  · unfold voteF
    split
    · intro x hx; simp at hx
    · simp only
      split
      · exact leadF_short _
      · intro x hx; simp at hx
  split
  · unfold appendF
    split
    · intro x hx; simp [refusal] at hx; subst hx; simp
    split
    · intro x hx; simp at hx
    simp only
    split
    · intro x hx; simp [refusal] at hx; subst hx; simp
    · intro x hx; simp at hx; subst hx; simp
  · unfold replyF
    split
    · intro x hx; simp at hx
    · simp only
      intro x hx
      split at hx
      · simp only [List.mem_singleton] at hx
        subst hx
        exact logLet_short _ _
      · simp at hx
theorem proposeF_short (r : Rep) (t : ByteArray) : ∀ m ∈ (proposeF r t).2.1, m.items.length ≤ 50 := by
  unfold proposeF
  split
  · intro x hx; simp at hx
  split
  · intro x hx; simp at hx
  · exact log_short _ _
/-- at most seven letters at once -/
theorem othersF_few {n : Int} (h : n ≤ 7) (id : Int) : (othersF n.toNat id).length ≤ 7 := by
  unfold othersF
  refine Nat.le_trans (List.length_filter_le _ _) ?_
  simp only [List.length_map, List.length_range]
  omega
theorem leadF_few {r : Rep} (h : r.count ≤ 7) : (leadF r).2.length ≤ 7 := by
  simp only [leadF, List.length_map]
  exact othersF_few h _
theorem timeoutF_few {r : Rep} (h : r.count ≤ 7) : (timeoutF r).2.length ≤ 7 := by
  unfold timeoutF
  split
  · simp only [List.length_map]; exact othersF_few h _
  split
  · simp
  simp only
  split
  · exact leadF_few (by exact h)
  · simp only [List.length_map]; exact othersF_few h _
theorem handleF_few {r : Rep} {m : Let} (h : r.count ≤ 7) : (handleF r m).2.length ≤ 7 := by
  unfold handleF
  split
  · simp
  simp only
  have hc : (if m.ep > r.epoch then ({ followF r with epoch := m.ep, voted := -1 } : Rep) else r).count ≤ 7 := by
    split
    · exact h
    · exact h
  generalize (if m.ep > r.epoch then ({ followF r with epoch := m.ep, voted := -1 } : Rep) else r) = r1 at *
  split
  · simp [askF]
  split
  · unfold voteF
    split
    · simp
    · simp only
      split
      · exact leadF_few (by exact hc)
      · simp
  split
  · unfold appendF
    split
    · simp
    split
    · simp
    simp only
    split
    · simp
    · simp
  · unfold replyF
    split
    · simp
    · simp only
      split <;> simp
theorem proposeF_few {r : Rep} {t : ByteArray} (h : r.count ≤ 7) : (proposeF r t).2.1.length ≤ 7 := by
  unfold proposeF
  split
  · simp
  split
  · simp
  · simp only [List.length_map]; exact othersF_few h _
theorem Valid.small {r : Rep} (h : Valid r) : r.log.length ≤ 1000 ∧ r.votes.length ≤ 7 ∧ r.mat.length ≤ 7 := by
  have h1 := h.votes
  have h2 := h.mat
  have h3 := h.count7
  refine ⟨h.len, ?_, ?_⟩
  · split at h1 <;> omega
  · split at h2 <;> omega
/-- what can happen in the law's world -/
structure WOk (n : Nat) (s : WS) : Prop where
  inv : WInv n s
  short : ∀ m ∈ s.lets, m.items.length ≤ 50
theorem WOk.played {n : Nat} {s : WS} (h : WOk n s) (itoa : Int → ByteArray) (kind a b : Int) : WOk n (playF itoa s kind a b) := by
  refine ⟨h.inv.played itoa kind a b, ?_⟩
  have hs := h.short
  have step : ∀ i p, (∀ m ∈ p.2, m.items.length ≤ 50) → ∀ m ∈ (stepF s i p).lets, m.items.length ≤ 50 := by
    intro i p hp m hm
    simp only [stepF, List.mem_append] at hm
    exact hm.elim (hs m) (hp m)
  unfold playF
  split
  · exact hs
  split
  · split
    · exact step _ _ (timeoutF_short _)
    · exact hs
  split
  · split
    · exact hs
    split
    · split
      · exact step _ _ (handleF_short _ _)
      · exact hs
    · exact hs
  split
  · split
    · exact step _ _ (proposeF_short _ _)
    · exact hs
  split
  · split
    · exact step _ _ (by simp)
    · exact hs
  · exact hs
theorem WInv.playedLen {n : Nat} {s : WS} (h : WInv n s) (itoa : Int → ByteArray) (kind a b : Int) : (playF itoa s kind a b).lets.length ≤ s.lets.length + 7 := by
  unfold playF
  split
  · omega
  split
  · split
    · next r hr => have := timeoutF_few (h.rep _ _ hr).1.count7; simp only [stepF, List.length_append]; omega
    · omega
  split
  · split
    · omega
    split
    · next m hm =>
      split
      · next r hr => have := handleF_few (m := m) (h.rep _ _ hr).1.count7; simp only [stepF, List.length_append]; omega
      · omega
    · omega
  split
  · split
    · next r hr => have := proposeF_few (t := itoa b) (h.rep _ _ hr).1.count7; simp only [stepF, List.length_append]; omega
    · omega
  split
  · split
    · simp only [stepF, List.length_append, List.length_nil]; omega
    · omega
  · omega
end Go.Proofs.YtgohploghbimlaaDoor

/- Plain laws: the example of the documentation, played. -/
namespace Go.Proofs.YtgohploghbimlaaDoor
/-- the text of seven -/
def T7 : ByteArray := ⟨#[55]⟩
def exLets : List Let := [⟨1, 0, 1, 1, 0, 0, [], 0, false⟩, ⟨1, 0, 2, 1, 0, 0, [], 0, false⟩, ⟨2, 1, 0, 1, 0, 0, [], 0, true⟩, ⟨3, 0, 1, 1, 0, 0, [], 0, false⟩, ⟨3, 0, 2, 1, 0, 0, [], 0, false⟩, ⟨3, 0, 1, 1, 0, 0, [⟨1, T7⟩], 0, false⟩, ⟨3, 0, 2, 1, 0, 0, [⟨1, T7⟩], 0, false⟩, ⟨4, 1, 0, 1, 1, 0, [], 0, true⟩, ⟨1, 2, 0, 1, 0, 0, [], 0, false⟩, ⟨1, 2, 1, 1, 0, 0, [], 0, false⟩, ⟨1, 2, 0, 2, 0, 0, [], 0, false⟩, ⟨1, 2, 1, 2, 0, 0, [], 0, false⟩, ⟨2, 1, 2, 2, 0, 0, [], 0, false⟩, ⟨2, 0, 2, 2, 0, 0, [], 0, false⟩, ⟨1, 1, 0, 3, 1, 1, [], 0, false⟩, ⟨1, 1, 2, 3, 1, 1, [], 0, false⟩, ⟨2, 2, 1, 3, 0, 0, [], 0, true⟩, ⟨3, 1, 0, 3, 0, 0, [⟨1, T7⟩], 0, false⟩, ⟨3, 1, 2, 3, 0, 0, [⟨1, T7⟩], 0, false⟩]
def newR (i : Int) : Rep := ⟨i, 3, 0, -1, 1, [], 0, [], []⟩
def ex0 : WS := ⟨[newR 0, newR 1, newR 2], []⟩
def ex1 : WS := ⟨[⟨0, 3, 1, 0, 2, [], 0, [true, false, false], []⟩, newR 1, newR 2], exLets.take 2⟩
def ex2 : WS := ⟨[⟨0, 3, 1, 0, 2, [], 0, [true, false, false], []⟩, ⟨1, 3, 1, 0, 1, [], 0, [], []⟩, newR 2], exLets.take 3⟩
def ex3 : WS := ⟨[⟨0, 3, 1, 0, 3, [], 0, [], [0, 0, 0]⟩, ⟨1, 3, 1, 0, 1, [], 0, [], []⟩, newR 2], exLets.take 5⟩
def ex4 : WS := ⟨[⟨0, 3, 1, 0, 3, [⟨1, T7⟩], 0, [], [1, 0, 0]⟩, ⟨1, 3, 1, 0, 1, [], 0, [], []⟩, newR 2], exLets.take 7⟩
def ex5 : WS := ⟨[⟨0, 3, 1, 0, 3, [⟨1, T7⟩], 0, [], [1, 0, 0]⟩, ⟨1, 3, 1, 0, 1, [⟨1, T7⟩], 0, [], []⟩, newR 2], exLets.take 8⟩
def ex6 : WS := ⟨[⟨0, 3, 1, 0, 3, [⟨1, T7⟩], 1, [], [1, 1, 0]⟩, ⟨1, 3, 1, 0, 1, [⟨1, T7⟩], 0, [], []⟩, newR 2], exLets.take 8⟩
def ex7 : WS := ⟨[⟨0, 3, 1, 0, 3, [⟨1, T7⟩], 1, [], [1, 1, 0]⟩, ⟨1, 3, 1, 0, 1, [⟨1, T7⟩], 0, [], []⟩, ⟨2, 3, 1, 2, 2, [], 0, [false, false, true], []⟩], exLets.take 10⟩
def ex8 : WS := ⟨[⟨0, 3, 1, 0, 3, [⟨1, T7⟩], 1, [], [1, 1, 0]⟩, ⟨1, 3, 1, 0, 1, [⟨1, T7⟩], 0, [], []⟩, ⟨2, 3, 2, 2, 2, [], 0, [false, false, true], []⟩], exLets.take 12⟩
def ex9 : WS := ⟨[⟨0, 3, 1, 0, 3, [⟨1, T7⟩], 1, [], [1, 1, 0]⟩, ⟨1, 3, 2, -1, 1, [⟨1, T7⟩], 0, [], []⟩, ⟨2, 3, 2, 2, 2, [], 0, [false, false, true], []⟩], exLets.take 13⟩
def ex10 : WS := ⟨[⟨0, 3, 2, -1, 1, [⟨1, T7⟩], 1, [], []⟩, ⟨1, 3, 2, -1, 1, [⟨1, T7⟩], 0, [], []⟩, ⟨2, 3, 2, 2, 2, [], 0, [false, false, true], []⟩], exLets.take 14⟩
def ex11 : WS := ⟨[⟨0, 3, 2, -1, 1, [⟨1, T7⟩], 1, [], []⟩, ⟨1, 3, 3, 1, 2, [⟨1, T7⟩], 0, [false, true, false], []⟩, ⟨2, 3, 2, 2, 2, [], 0, [false, false, true], []⟩], exLets.take 16⟩
def ex12 : WS := ⟨[⟨0, 3, 2, -1, 1, [⟨1, T7⟩], 1, [], []⟩, ⟨1, 3, 3, 1, 2, [⟨1, T7⟩], 0, [false, true, false], []⟩, ⟨2, 3, 3, 1, 1, [], 0, [], []⟩], exLets.take 17⟩
def ex13 : WS := ⟨[⟨0, 3, 2, -1, 1, [⟨1, T7⟩], 1, [], []⟩, ⟨1, 3, 3, 1, 3, [⟨1, T7⟩], 0, [], [0, 1, 0]⟩, ⟨2, 3, 3, 1, 1, [], 0, [], []⟩], exLets.take 19⟩

theorem ex_settle3 : settleF ⟨0, 3, 1, 0, 3, [], 0, [], [0, 0, 0]⟩ = ⟨0, 3, 1, 0, 3, [], 0, [], [0, 0, 0]⟩ := by simp [settleF, median, List.mergeSort]
theorem ex_settle6 : settleF ⟨0, 3, 1, 0, 3, [⟨1, T7⟩], 0, [], [1, 1, 0]⟩ = ⟨0, 3, 1, 0, 3, [⟨1, T7⟩], 1, [], [1, 1, 0]⟩ := by simp [settleF, median, List.mergeSort, lastF]
theorem ex_settle13 : settleF ⟨1, 3, 3, 1, 3, [⟨1, T7⟩], 0, [], [0, 1, 0]⟩ = ⟨1, 3, 3, 1, 3, [⟨1, T7⟩], 0, [], [0, 1, 0]⟩ := by simp [settleF, median, List.mergeSort, lastF]
section
variable (it : Int → ByteArray)
theorem ex_1 : playF it ex0 1 0 0 = ex1 := rfl
theorem ex_2 : playF it ex1 2 0 0 = ex2 := rfl
theorem ex_3 : playF it ex2 2 0 2 = ex3 :=
  (show playF it ex2 2 0 2 = stepF ex2 0 (settleF ⟨0, 3, 1, 0, 3, [], 0, [], [0, 0, 0]⟩, (othersF 3 0).map (logLet (settleF ⟨0, 3, 1, 0, 3, [], 0, [], [0, 0, 0]⟩))) from rfl).trans (by rw [ex_settle3]; rfl)
theorem ex_4 (h : it 7 = T7) : playF it ex3 3 0 7 = ex4 :=
  (show playF it ex3 3 0 7 = stepF ex3 0 ((proposeF ⟨0, 3, 1, 0, 3, [], 0, [], [0, 0, 0]⟩ (it 7)).1, (proposeF ⟨0, 3, 1, 0, 3, [], 0, [], [0, 0, 0]⟩ (it 7)).2.1) from rfl).trans (by rw [h]; rfl)
theorem ex_5 : playF it ex4 2 0 5 = ex5 := rfl
theorem ex_6 : playF it ex5 2 0 7 = ex6 :=
  (show playF it ex5 2 0 7 = stepF ex5 0 (settleF ⟨0, 3, 1, 0, 3, [⟨1, T7⟩], 0, [], [1, 1, 0]⟩, []) from rfl).trans (by rw [ex_settle6]; rfl)
theorem ex_7 : playF it ex6 1 2 0 = ex7 := rfl
theorem ex_8 : playF it ex7 1 2 0 = ex8 := rfl
theorem ex_9 : playF it ex8 2 0 11 = ex9 := rfl
theorem ex_10 : playF it ex9 2 0 10 = ex10 := rfl
theorem ex_11 : playF it ex10 1 1 0 = ex11 := rfl
theorem ex_12 : playF it ex11 2 0 15 = ex12 := rfl
theorem ex_13 : playF it ex12 2 0 16 = ex13 :=
  (show playF it ex12 2 0 16 = stepF ex12 1 (settleF ⟨1, 3, 3, 1, 3, [⟨1, T7⟩], 0, [], [0, 1, 0]⟩, (othersF 3 1).map (logLet (settleF ⟨1, 3, 3, 1, 3, [⟨1, T7⟩], 0, [], [0, 1, 0]⟩))) from rfl).trans (by rw [ex_settle13]; rfl)
end
end Go.Proofs.YtgohploghbimlaaDoor
