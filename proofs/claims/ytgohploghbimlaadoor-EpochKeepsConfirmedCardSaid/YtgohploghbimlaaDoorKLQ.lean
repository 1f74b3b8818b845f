/- Texts that belong together: LQ, LR, LT, LU. -/
import Derived.Test.YtgohploghbimlaaDoorKLP
import Derived.Lib.ItoaNum
set_option linter.unusedVariables false
set_option linter.unusedSimpArgs false
set_option linter.unusedSectionVars false
/- Plain laws: what one leader does, and the others, letter by letter. -/
namespace Go.Proofs.YtgohploghbimlaaDoor

/-- all items are of the first epoch -/
def Ones (L : List Item) : Prop := ∀ x ∈ L, x.ep = 1
theorem Ones.last {L : List Item} (h : Ones L) : lastF L = if L = [] then 0 else 1 := by
  unfold lastF
  cases hl : L.getLast? with
  | none => rw [List.getLast?_eq_none_iff] at hl; simp [hl]
  | some x =>
    have hx := List.mem_of_getLast? hl
    have hn : L ≠ [] := by rintro rfl; simp at hl
    simp only [if_neg hn]; exact h x hx
theorem Ones.proper {X : List Item} (h : Ones X) (hs : ∀ x ∈ X, (x.tx.size : Int) ≤ 8000) (lo : Int) (hl : lo ≤ 1) : properF X lo 1 = true :=
  (properF_iff X lo 1).2 ⟨fun x hx => by have := h x hx; have := hs x hx; omega, by
    rw [List.pairwise_iff_forall_sublist]
    intro a b hab
    have ha := h a (hab.subset (by simp))
    have hb := h b (hab.subset (by simp))
    omega⟩

/-- a replica that follows the leader id, with the log L, of which c are confirmed -/
def folR (n id i : Nat) (L : List Item) (c : Int) : Rep := ⟨i, n, 1, id, 1, L, c, [], []⟩
/-- the leader -/
def ledR (n id : Nat) (L : List Item) (c : Int) (mat : List Int) : Rep := ⟨id, n, 1, id, 3, L, c, [], mat⟩
def appM (id i : Nat) (pos aep : Int) (X : List Item) (q : Int) : Let := ⟨3, id, i, 1, pos, aep, X, q, false⟩
def yesM (id i : Nat) (pos : Int) : Let := ⟨4, i, id, 1, pos, 0, [], 0, true⟩

theorem fine3 {r : Rep} {m : Let} (h1 : m.kind = 3) (h2 : m.dst = r.id) (h3 : 0 ≤ m.src) (h4 : m.src < r.count) (h5 : m.src ≠ r.id) (h6 : 1 ≤ m.ep) (h7 : m.ep ≤ 1073741824) (h8 : 0 ≤ m.pos) (h9 : m.pos + m.items.length ≤ 1000)
    (h10 : 0 ≤ m.aep) (h11 : m.aep ≤ m.ep) (h12 : m.pos > 0 ∨ m.aep = 0) (h13 : 0 ≤ m.conf) (h14 : properF m.items (max 1 m.aep) m.ep = true) : fineF r m = true := by
  unfold fineF
  rw [if_neg (by omega), if_neg (by omega), if_neg (by omega), if_neg (by omega), h14, Bool.and_true, decide_eq_true_eq]
  exact ⟨h10, h11, h12, h9, h13⟩
theorem fine14 {r : Rep} {m : Let} (h1 : m.kind = 1 ∨ m.kind = 4) (h2 : m.dst = r.id) (h3 : 0 ≤ m.src) (h4 : m.src < r.count) (h5 : m.src ≠ r.id) (h6 : 1 ≤ m.ep) (h7 : m.ep ≤ 1073741824) (h8 : 0 ≤ m.pos) (h9 : m.pos ≤ 1000) : fineF r m = true := by
  unfold fineF
  rw [if_neg (by omega), if_neg (by omega), if_neg (by omega), if_pos (by omega)]
theorem fine2 {r : Rep} {m : Let} (h1 : m.kind = 2) (h2 : m.dst = r.id) (h3 : 0 ≤ m.src) (h4 : m.src < r.count) (h5 : m.src ≠ r.id) (h6 : 1 ≤ m.ep) (h7 : m.ep ≤ 1073741824) : fineF r m = true := by
  unfold fineF
  rw [if_neg (by omega), if_pos h1]
theorem handle_eq {r : Rep} {m : Let} (hf : fineF r m = true) (he : m.ep = r.epoch) : handleF r m = if m.kind = 1 then askF r m else if m.kind = 2 then voteF r m else if m.kind = 3 then appendF r m else replyF r m := by
  unfold handleF
  rw [if_neg (by simp [hf])]
  simp only
  rw [if_neg (show ¬ m.ep > r.epoch by omega)]
theorem append_full {r : Rep} {m : Let} (he : m.ep = r.epoch) (h3 : r.role ≠ 3) (hp : m.pos = r.log.length) (ha : m.aep = lastF r.log) :
    appendF r m = ({ followF r with log := r.log ++ m.items, conf := min (max r.conf (min m.conf (m.pos + m.items.length))) (m.pos + m.items.length) }, [{ kind := 4, src := r.id, dst := m.src, ep := r.epoch, pos := m.pos + m.items.length, aep := 0, items := [], conf := 0, yes := true }]) := by
  have hpn : m.pos.toNat = r.log.length := by omega
  have hL : appendLog r m = r.log ++ m.items := by
    unfold appendLog
    simp only [hpn, List.drop_length]
    have : sameF [] m.items = 0 := by cases m.items <;> rfl
    rw [this]
    cases h : m.items with
    | nil => simp
    | cons x X => simp
  unfold appendF
  rw [if_neg (by omega), if_neg h3]
  simp only
  rw [if_neg (by rw [hpn, List.take_length]; omega), hL]
  simp only [List.length_append, Int.natCast_add, hp]

theorem handle_app {n id i : Nat} (hi : i < n) (hid : id < n) (hne : i ≠ id) {L X : List Item} (hL : Ones L) (hX : Ones X) (hs : ∀ x ∈ X, (x.tx.size : Int) ≤ 8000) (hl : L.length + X.length ≤ 1000) {c q : Int} (hq : 0 ≤ q) :
    handleF (folR n id i L c) (appM id i L.length (lastF L) X q) = (folR n id i (L ++ X) (min (max c (min q (L.length + X.length))) (L.length + X.length)), [yesM id i (L.length + X.length)]) := by
  have hlast : (L = [] ∧ lastF L = 0) ∨ (0 < L.length ∧ lastF L = 1) := by
    by_cases h : L = []
    · exact .inl ⟨h, by rw [hL.last, if_pos h]⟩
    · exact .inr ⟨List.length_pos_iff.2 h, by rw [hL.last, if_neg h]⟩
  have hp : properF X (max 1 (lastF L)) 1 = true := hX.proper hs _ (by rcases hlast with h | h <;> omega)
  have hf : fineF (folR n id i L c) (appM id i L.length (lastF L) X q) = true :=
    fine3 rfl rfl (by simp only [appM]; omega) (by simp only [appM, folR]; omega) (by simp only [appM, folR]; omega) (by simp only [appM]; omega) (by simp only [appM]; omega) (by simp only [appM]; omega) (by simp only [appM]; omega)
      (by simp only [appM]; rcases hlast with h | h <;> omega) (by simp only [appM]; rcases hlast with h | h <;> omega) (by simp only [appM]; rcases hlast with h | h <;> omega) hq hp
  rw [handle_eq hf rfl, if_neg (by simp only [appM]; omega), if_neg (by simp only [appM]; omega), if_pos (show (appM id i L.length (lastF L) X q).kind = 3 from rfl), append_full rfl (by simp only [folR]; omega) rfl rfl]
  rfl

theorem settle_gen {r : Rep} {n : Nat} (hn : 2 ≤ n) (hcn : r.count = n) (he : r.epoch = 1) (hL : Ones r.log) (hm : r.mat.length = n) (hb : ∀ x ∈ r.mat, 0 ≤ x ∧ x ≤ r.log.length) (hc : 0 ≤ r.conf) :
    settleF r = { r with conf := max r.conf (median r.mat (((n : Int) - 1) / 2).toNat) } ∧ 0 ≤ median r.mat (((n : Int) - 1) / 2).toNat ∧ median r.mat (((n : Int) - 1) / 2).toNat ≤ r.log.length := by
  have hk : (((n : Int) - 1) / 2).toNat < (r.mat.mergeSort (fun a b => decide (a ≤ b))).length := by
    rw [List.length_mergeSort]; omega
  have hme : median r.mat (((n : Int) - 1) / 2).toNat = (r.mat.mergeSort (fun a b => decide (a ≤ b)))[(((n : Int) - 1) / 2).toNat] := by
    unfold median; rw [List.getD, List.getElem?_eq_getElem hk]; rfl
  have hmem := hb _ ((List.mergeSort_perm r.mat (fun a b => decide (a ≤ b))).mem_iff.1 (List.getElem_mem hk))
  rw [← hme] at hmem
  refine ⟨?_, hmem.1, hmem.2⟩
  unfold settleF
  rw [if_neg (by omega), hcn]
  simp only
  generalize median r.mat (((n : Int) - 1) / 2).toNat = s at *
  by_cases h : s > r.conf
  · have hl : lastF (r.log.take s.toNat) = r.epoch := by
      have ho : Ones (r.log.take s.toNat) := fun x hx => hL x (List.mem_of_mem_take hx)
      rw [ho.last, if_neg, he]
      intro h0
      have := congrArg List.length h0
      simp only [List.length_take, List.length_nil] at this
      omega
    rw [if_pos ⟨h, hl⟩, show max r.conf s = s by omega]
  · rw [if_neg (fun x => h x.1), show max r.conf s = r.conf by omega, ← hcn]
theorem reply_full {r : Rep} {m : Let} (h3 : r.role = 3) (he : m.ep = r.epoch) (hy : m.yes = true) (hp : m.pos = r.log.length) (hs : 0 ≤ m.src) (hl : m.src < r.mat.length) (hb : ∀ x ∈ r.mat, x ≤ r.log.length) :
    replyF r m = (settleF { r with mat := r.mat.set m.src.toNat r.log.length }, []) := by
  unfold replyF
  rw [if_neg (by simp only [h3, he, hy]; simp)]
  have hx : max (r.mat.getD m.src.toNat 0) (min m.pos r.log.length) = r.log.length := by
    have hlt : m.src.toNat < r.mat.length := by omega
    have := hb _ (List.getElem_mem hlt)
    rw [List.getD, List.getElem?_eq_getElem hlt, Option.getD_some]
    omega
  simp only [hx]
  rw [if_neg (by omega)]

theorem handle_yes {n id i : Nat} (hn : 2 ≤ n) (hi : i < n) (hid : id < n) (hne : i ≠ id) {L : List Item} (hL : Ones L) (hl : L.length ≤ 1000) {c : Int} {mat : List Int} (hm : mat.length = n) (hb : ∀ x ∈ mat, 0 ≤ x ∧ x ≤ L.length) (hc : 0 ≤ c) :
    handleF (ledR n id L c mat) (yesM id i L.length) = (ledR n id L (max c (median (mat.set i L.length) (((n : Int) - 1) / 2).toNat)) (mat.set i L.length), []) ∧ 0 ≤ median (mat.set i L.length) (((n : Int) - 1) / 2).toNat ∧ median (mat.set i L.length) (((n : Int) - 1) / 2).toNat ≤ L.length := by
  have hb2 : ∀ x ∈ mat.set i (L.length : Int), 0 ≤ x ∧ x ≤ L.length := by
    intro x hx
    rcases List.mem_or_eq_of_mem_set hx with h | h
    · exact hb x h
    · omega
  obtain ⟨s1, s2, s3⟩ := settle_gen (r := ledR n id L c (mat.set i (L.length : Int))) hn rfl rfl hL (by simpa [ledR] using hm) hb2 hc
  refine ⟨?_, s2, s3⟩
  have hf : fineF (ledR n id L c mat) (yesM id i L.length) = true :=
    fine14 (.inr rfl) rfl (by simp only [yesM]; omega) (by simp only [yesM, ledR]; omega) (by simp only [yesM, ledR]; omega) (by simp only [yesM]; omega) (by simp only [yesM]; omega) (by simp only [yesM]; omega) (by simp only [yesM]; omega)
  rw [handle_eq hf rfl, if_neg (by simp only [yesM]; omega), if_neg (by simp only [yesM]; omega), if_neg (by simp only [yesM]; omega),
    reply_full rfl rfl rfl rfl (by simp only [yesM]; omega) (by simp only [yesM, ledR]; omega) (fun x hx => (hb x hx).2)]
  have e : ({ ledR n id L c mat with mat := (ledR n id L c mat).mat.set (yesM id i (L.length : Int)).src.toNat (ledR n id L c mat).log.length } : Rep) = ledR n id L c (mat.set i L.length) := by
    simp only [ledR, yesM, Int.toNat_natCast]
  rw [e, s1]
  rfl

/-- the leader gets a yes of each of them -/
theorem all_yes {n id : Nat} (hn : 2 ≤ n) (hid : id < n) {L : List Item} (hL : Ones L) (hl : L.length ≤ 1000) : ∀ (os : List Nat), (∀ i ∈ os, i < n ∧ i ≠ id) → ∀ (c : Int) (mat : List Int), mat.length = n → (∀ x ∈ mat, 0 ≤ x ∧ x ≤ L.length) → 0 ≤ c → c ≤ L.length →
    ∃ c' mat', hAll (ledR n id L c mat) (os.map fun i => yesM id i L.length) = (ledR n id L c' mat', []) ∧ mat'.length = n ∧ (∀ i ∈ os, mat'[i]? = some (L.length : Int)) ∧ (∀ i, i ∉ os → mat'[i]? = mat[i]?) ∧ c' ≤ L.length ∧
      (os ≠ [] → median mat' (((n : Int) - 1) / 2).toNat ≤ c') ∧ (os = [] → c' = c) := by
  intro os
  induction os with
  | nil => intro _ c mat hm hb hc hcl; exact ⟨c, mat, rfl, hm, (fun i hi => by cases hi), (fun _ _ => rfl), hcl, (fun h => absurd rfl h), (fun _ => rfl)⟩
  | cons i os ih =>
    intro ho c mat hm hb hc hcl
    obtain ⟨hi, hne⟩ := ho i (List.mem_cons_self ..)
    obtain ⟨h1, h2, h3⟩ := handle_yes hn hi hid hne hL hl hm hb hc
    have hb2 : ∀ x ∈ mat.set i (L.length : Int), 0 ≤ x ∧ x ≤ L.length := by
      intro x hx
      rcases List.mem_or_eq_of_mem_set hx with h | h
      · exact hb x h
      · omega
    obtain ⟨c', mat', g1, g2, g3, g4, g5, g6, g7⟩ := ih (fun k hk => ho k (List.mem_cons_of_mem _ hk)) (max c (median (mat.set i (L.length : Int)) (((n : Int) - 1) / 2).toNat)) (mat.set i L.length) (by simpa using hm) hb2 (by omega) (by omega)
    refine ⟨c', mat', ?_, g2, ?_, ?_, g5, ?_, fun h => by cases h⟩
    · simp only [List.map_cons, hAll, h1, g1, List.nil_append]
    · intro k hk
      by_cases hko : k ∈ os
      · exact g3 k hko
      · rcases List.mem_cons.1 hk with rfl | hk
        · rw [g4 _ hko, List.getElem?_set_self (by omega)]
        · exact absurd hk hko
    · intro k hk
      simp only [List.mem_cons, not_or] at hk
      rw [g4 k hk.2, List.getElem?_set_ne (fun h => hk.1 h.symm)]
    · intro _
      by_cases h0 : os = []
      · rw [g7 h0]
        subst h0
        have : mat' = mat.set i (L.length : Int) := List.ext_getElem? (fun k => g4 k (by simp))
        rw [this]
        omega
      · exact g6 h0
theorem median_replicate {n : Nat} (hn : 2 ≤ n) (K : Int) : median (List.replicate n K) (((n : Int) - 1) / 2).toNat = K := by
  have hk : (((n : Int) - 1) / 2).toNat < ((List.replicate n K).mergeSort (fun a b => decide (a ≤ b))).length := by
    rw [List.length_mergeSort, List.length_replicate]; omega
  have hme : median (List.replicate n K) (((n : Int) - 1) / 2).toNat = ((List.replicate n K).mergeSort (fun a b => decide (a ≤ b)))[(((n : Int) - 1) / 2).toNat] := by
    unfold median; rw [List.getD, List.getElem?_eq_getElem hk]; rfl
  have := (List.mergeSort_perm (List.replicate n K) (fun a b => decide (a ≤ b))).mem_iff.1 (List.getElem_mem hk)
  rw [List.mem_replicate] at this
  rw [hme]; exact this.2
end Go.Proofs.YtgohploghbimlaaDoor

/- Plain laws: the stages: an election, a proposal, a last message. -/
namespace Go.Proofs.YtgohploghbimlaaDoor

/-- all letters are delivered: id leads, the others follow, all with the log L, of which the others know c as confirmed -/
structure Quiet (n id : Nat) (L : List Item) (c : Int) (s : WS) : Prop where
  len : s.reps.length = n
  lead : s.reps[id]? = some (ledR n id L L.length (List.replicate n (L.length : Int)))
  fol : ∀ i, i < n → i ≠ id → s.reps[i]? = some (folR n id i L c)

theorem map_others {α : Type} (n id : Nat) (f : Int → α) : (othersF n (id : Int)).map f = (osF n id).map fun k => f ((k : Nat) : Int) := by
  rw [othersF_os, List.map_map]; rfl

/-- the leader's letters with items, and all answers -/
theorem stage_apps (it : Int → ByteArray) {n id : Nat} (hn : 2 ≤ n) (h5 : n ≤ 5) (hid : id < n) {L0 X L : List Item} (hLX : L0 ++ X = L) (hL : Ones L) (hs : ∀ x ∈ X, (x.tx.size : Int) ≤ 8000) (hl : L.length ≤ 1000) {c q0 q : Int} {mat : List Int} (hq0 : 0 ≤ q0)
    (hq : 0 ≤ q) (hql : q ≤ L.length) (hm : mat.length = n) (hb : ∀ x ∈ mat, 0 ≤ x ∧ x ≤ L.length) (hmi : mat[id]? = some (L.length : Int)) {s : WS} {pre : List Let}
    (h0 : s.reps.length = n) (h1 : s.reps[id]? = some (ledR n id L q mat)) (h2 : ∀ i, i < n → i ≠ id → s.reps[i]? = some (folR n id i L0 c)) (h3 : s.lets = pre ++ (osF n id).map fun i => appM id i L0.length (lastF L0) X q0) :
    ∃ t e, Del it s pre.length t e ∧ e = t.lets.length ∧ Quiet n id L (min (max c (min q0 L.length)) L.length) t ∧ e ≤ pre.length + 10 := by
  subst hLX
  have hL0 : Ones L0 := fun x hx => hL x (List.mem_append_left _ hx)
  have hX : Ones X := fun x hx => hL x (List.mem_append_right _ hx)
  have hlen := osF_len hid
  simp only [List.length_append, Int.natCast_add] at *
  obtain ⟨s1, d1, e1, f1, g1, k1⟩ := del_each it (fun i => appM id i L0.length (lastF L0) X q0) (fun i => yesM id i (L0.length + X.length)) (fun i => folR n id i L0 c) (fun i => folR n id i (L0 ++ X) (min (max c (min q0 (L0.length + X.length))) (L0.length + X.length))) (osF n id) pre [] s (by simpa using h3) (by omega) (osF_nodup n id) (fun i hi => by
    obtain ⟨a, b⟩ := osF_mem.1 hi
    exact ⟨h2 i a b, rfl, handle_app a hid b hL0 hX hs (by omega) hq0⟩)
  have hid' : id ∉ osF n id := fun h => (osF_mem.1 h).2 rfl
  have hLl : ((L0 ++ X).length : Int) = L0.length + X.length := by simp
  obtain ⟨c', mat', a1, a2, a3, a4, a5, a6, a7⟩ := all_yes hn hid hL (by simpa using hl) (osF n id) (fun i hi => osF_mem.1 hi) q mat hm (by rw [hLl]; exact hb) hq (by omega)
  rw [hLl] at a1 a3 a5
  obtain ⟨t, d2, e2, f2, g2, k2⟩ := del_one it id ((osF n id).map fun i => yesM id i (L0.length + X.length)) (pre ++ (osF n id).map fun i => appM id i L0.length (lastF L0) X q0) [] s1 (ledR n id (L0 ++ X) q mat) (by rw [e1, h3]; simp) (by omega) (by rw [g1 _ hid']; exact h1) (fun m hm => by
    obtain ⟨i, _, rfl⟩ := List.mem_map.1 hm
    rfl)
  rw [a1] at e2 k2
  have hmat : mat' = List.replicate n ((L0.length : Int) + X.length) := by
    apply List.ext_getElem?
    intro k
    rw [List.getElem?_replicate]
    by_cases hk : k < n
    · rw [if_pos hk]
      by_cases hki : k = id
      · subst hki
        rw [a4 _ hid']; exact hmi
      · exact a3 k (osF_mem.2 ⟨hk, hki⟩)
    · rw [if_neg hk]
      exact List.getElem?_eq_none (by omega)
  have hc' : c' = L0.length + X.length := by
    have hne : osF n id ≠ [] := by
      intro h
      rw [h] at hlen
      simp at hlen
      omega
    have := a6 hne
    rw [hmat, median_replicate hn] at this
    omega
  refine ⟨t, _, d1.trans (by simpa using d2), ?_, ⟨by omega, ?_, ?_⟩, ?_⟩
  · rw [e2, e1, h3]; simp; omega
  · rw [k2, hc', hmat]; simp
  · intro i hi hne
    rw [g2 i hne]
    have := k1 i (osF_mem.2 ⟨hi, hne⟩)
    simpa using this
  · omega

theorem logLet_at {n id : Nat} {L : List Item} {c : Int} {mat : List Int} {k p : Nat} (h : mat[k]? = some (p : Int)) :
    logLet (ledR n id L c mat) (k : Int) = appM id k p (lastF (L.take p)) ((L.take (min L.length (p + 50))).drop p) c := by
  unfold logLet
  simp only [ledR, Int.toNat_natCast, List.getD, h, Option.getD_some, appM]

/-- the leader sends once more what is confirmed -/
theorem stage_last (it : Int → ByteArray) {n id : Nat} (h1 : 1 ≤ n) (h5 : n ≤ 5) (hid : id < n) {L : List Item} (hL : Ones L) (hl : L.length ≤ 900) {c : Int} (hc : 0 ≤ c) (hcl : c ≤ L.length) {s : WS} (hs : Quiet n id L c s) :
    ∃ t e, Del it (playF it s 1 id 0) s.lets.length t e ∧ e = t.lets.length ∧ Quiet n id L L.length t ∧ e ≤ s.lets.length + 10 := by
  have hlead := hs.lead
  have hp : playF it s 1 id 0 = stepF s id (ledR n id L L.length (List.replicate n (L.length : Int)), (osF n id).map fun i => appM id i L.length (lastF L) [] L.length) := by
    unfold playF
    rw [if_neg (by have := hs.len; omega), if_pos rfl]
    simp only [Int.toNat_natCast, hlead]
    have ht : timeoutF (ledR n id L L.length (List.replicate n (L.length : Int))) = (ledR n id L L.length (List.replicate n (L.length : Int)), (othersF n (id : Int)).map (logLet (ledR n id L L.length (List.replicate n (L.length : Int))))) := by
      unfold timeoutF
      rw [if_pos (show (ledR n id L L.length (List.replicate n (L.length : Int))).role = 3 from rfl)]
      rfl
    rw [ht, map_others]
    congr 2
    apply List.map_congr_left
    intro k hk
    rw [logLet_at (p := L.length) (by rw [List.getElem?_replicate, if_pos (osF_mem.1 hk).1])]
    simp
  rw [hp]
  by_cases h2 : 2 ≤ n
  · obtain ⟨t, e, a, b, c1, d⟩ := stage_apps it (c := c) (q0 := L.length) (q := L.length) (mat := List.replicate n (L.length : Int)) (L0 := L) (X := []) (s := stepF s id (ledR n id L L.length (List.replicate n (L.length : Int)), (osF n id).map fun i => appM id i L.length (lastF L) [] L.length)) (pre := s.lets) h2 h5 hid (by simp) hL (by simp) (by omega) (by omega) (by omega) (by omega) (by simp) (fun x hx => by rw [List.mem_replicate] at hx; omega) (by rw [List.getElem?_replicate, if_pos hid])
      (by simpa [stepF] using hs.len) (by simp only [stepF]; exact List.getElem?_set_self (by have := hs.len; omega)) (fun i hi hne => by simp only [stepF]; rw [List.getElem?_set_ne (fun h => hne h.symm)]; exact hs.fol i hi hne) rfl
    refine ⟨t, e, a, b, ?_, d⟩
    rw [show min (max c (min (L.length : Int) L.length)) (L.length : Int) = L.length by omega] at c1
    exact c1
  · have hn1 : n = 1 := by omega
    subst hn1
    have hid0 : id = 0 := by omega
    subst hid0
    refine ⟨_, _, .refl _ _, ?_, ⟨?_, ?_, ?_⟩, by omega⟩
    · simp [stepF, osF]
    · simpa [stepF] using hs.len
    · simp only [stepF]; exact List.getElem?_set_self (by have := hs.len; omega)
    · intro i hi hne; omega
end Go.Proofs.YtgohploghbimlaaDoor

/- Plain laws: the stages: a proposal; the election. -/
namespace Go.Proofs.YtgohploghbimlaaDoor

theorem stage_prop (it : Int → ByteArray) {n id : Nat} (h1 : 1 ≤ n) (h5 : n ≤ 5) (hid : id < n) {L : List Item} (hL : Ones L) (hl : L.length ≤ 900) {c : Int} (hc : 0 ≤ c) (hcl : c ≤ L.length) {s : WS} (hs : Quiet n id L c s) (b : Int) (hb : ((it b).size : Int) ≤ 8000) :
    ∃ t e, Del it (playF it s 3 id b) s.lets.length t e ∧ e = t.lets.length ∧ Quiet n id (L ++ [⟨1, it b⟩]) L.length t ∧ e ≤ s.lets.length + 10 := by
  have hlead := hs.lead
  have hlen := hs.len
  have hL' : Ones (L ++ [(⟨1, it b⟩ : Item)]) := by
    intro x hx
    rcases List.mem_append.1 hx with h | h
    · exact hL x h
    · simp at h; rw [h]
  have hpf : proposeF (ledR n id L L.length (List.replicate n (L.length : Int))) (it b) =
      (if n = 1 then settleF (ledR n id (L ++ [⟨1, it b⟩]) L.length ((List.replicate n (L.length : Int)).set id (L.length + 1))) else ledR n id (L ++ [⟨1, it b⟩]) L.length ((List.replicate n (L.length : Int)).set id (L.length + 1)),
        (othersF n (id : Int)).map (logLet (if n = 1 then settleF (ledR n id (L ++ [⟨1, it b⟩]) L.length ((List.replicate n (L.length : Int)).set id (L.length + 1))) else ledR n id (L ++ [⟨1, it b⟩]) L.length ((List.replicate n (L.length : Int)).set id (L.length + 1)))), 0) := by
    unfold proposeF
    rw [if_neg (show ¬ (ledR n id L L.length (List.replicate n (L.length : Int))).role ≠ 3 from fun h => h rfl), if_neg (by simp only [ledR]; omega)]
    have e1 : ({ ledR n id L L.length (List.replicate n (L.length : Int)) with log := (ledR n id L L.length (List.replicate n (L.length : Int))).log ++ [(⟨(ledR n id L L.length (List.replicate n (L.length : Int))).epoch, it b⟩ : Item)], mat := (ledR n id L L.length (List.replicate n (L.length : Int))).mat.set (ledR n id L L.length (List.replicate n (L.length : Int))).id.toNat (((ledR n id L L.length (List.replicate n (L.length : Int))).log ++ [(⟨(ledR n id L L.length (List.replicate n (L.length : Int))).epoch, it b⟩ : Item)]).length : Nat) } : Rep) =
        ledR n id (L ++ [⟨1, it b⟩]) L.length ((List.replicate n (L.length : Int)).set id (L.length + 1)) := by
      simp only [ledR, Int.toNat_natCast, List.length_append, List.length_singleton, Int.natCast_add, Int.cast_ofNat_Int]
    simp only at e1 ⊢
    rw [e1]
    have e2 : ((ledR n id L L.length (List.replicate n (L.length : Int))).count = 1) = (n = 1) := by
      simp only [ledR]
      exact propext ⟨fun h => by omega, fun h => by omega⟩
    simp only [e2]
    rfl
  have hp : playF it s 3 id b = stepF s id ((proposeF (ledR n id L L.length (List.replicate n (L.length : Int))) (it b)).1, (proposeF (ledR n id L L.length (List.replicate n (L.length : Int))) (it b)).2.1) := by
    unfold playF
    rw [if_neg (by omega), if_neg (by decide), if_neg (by decide), if_pos rfl]
    simp only [Int.toNat_natCast, hlead]
  rw [hp, hpf]
  by_cases h2 : 2 ≤ n
  · rw [if_neg (by omega)]
    simp only
    rw [map_others]
    have hms : ((osF n id).map fun k => logLet (ledR n id (L ++ [⟨1, it b⟩]) L.length ((List.replicate n (L.length : Int)).set id (L.length + 1))) ((k : Nat) : Int)) = (osF n id).map fun i => appM id i L.length (lastF L) [⟨1, it b⟩] L.length := by
      apply List.map_congr_left
      intro k hk
      rw [logLet_at (p := L.length) (by rw [List.getElem?_set_ne (fun h => (osF_mem.1 hk).2 h.symm), List.getElem?_replicate, if_pos (osF_mem.1 hk).1])]
      have e3 : min (L ++ [(⟨1, it b⟩ : Item)]).length (L.length + 50) = (L ++ [(⟨1, it b⟩ : Item)]).length := by simp
      rw [e3, List.take_length]
      simp
    rw [hms]
    obtain ⟨t, e, a, b1, c1, d⟩ := stage_apps it (c := c) (q0 := L.length) (q := L.length) (mat := (List.replicate n (L.length : Int)).set id (L.length + 1)) (L0 := L) (X := [⟨1, it b⟩]) (L := L ++ [⟨1, it b⟩])
      (s := stepF s id (ledR n id (L ++ [⟨1, it b⟩]) L.length ((List.replicate n (L.length : Int)).set id (L.length + 1)), (osF n id).map fun i => appM id i L.length (lastF L) [⟨1, it b⟩] L.length)) (pre := s.lets) h2 h5 hid rfl hL' (by simpa using hb) (by simp; omega) (by omega) (by omega) (by simp; omega) (by simp)
      (fun x hx => by
        simp only [List.length_append, List.length_singleton, Int.natCast_add]
        rcases List.mem_or_eq_of_mem_set hx with h | h
        · rw [List.mem_replicate] at h; omega
        · omega) (by rw [List.getElem?_set_self (by simpa using hid)]; simp)
      (by simpa [stepF] using hlen) (by simp only [stepF]; exact List.getElem?_set_self (by omega)) (fun i hi hne => by simp only [stepF]; rw [List.getElem?_set_ne (fun h => hne h.symm)]; exact hs.fol i hi hne) rfl
    refine ⟨t, e, a, b1, ?_, d⟩
    have e4 : min (max c (min (L.length : Int) ((L ++ [(⟨1, it b⟩ : Item)]).length : Nat))) ((L ++ [(⟨1, it b⟩ : Item)]).length : Nat) = L.length := by
      simp only [List.length_append, List.length_singleton, Int.natCast_add]; omega
    rw [e4] at c1
    exact c1
  · have hn1 : n = 1 := by omega
    subst hn1
    have hid0 : id = 0 := by omega
    subst hid0
    rw [if_pos rfl]
    have hst : settleF (ledR 1 0 (L ++ [⟨1, it b⟩]) L.length ((List.replicate 1 (L.length : Int)).set 0 (L.length + 1))) = ledR 1 0 (L ++ [⟨1, it b⟩]) ((L ++ [(⟨1, it b⟩ : Item)]).length : Nat) (List.replicate 1 (((L ++ [(⟨1, it b⟩ : Item)]).length : Nat) : Int)) := by
      unfold settleF
      rw [if_pos (show (ledR 1 0 (L ++ [⟨1, it b⟩]) L.length ((List.replicate 1 (L.length : Int)).set 0 (L.length + 1))).count = 1 from rfl)]
      simp [ledR]
    rw [hst]
    have ho : othersF 1 ((0 : Nat) : Int) = [] := by decide
    rw [ho]
    refine ⟨_, _, .refl _ _, ?_, ⟨?_, ?_, ?_⟩, by omega⟩
    · simp [stepF]
    · simpa [stepF] using hlen
    · simp only [stepF]; exact List.getElem?_set_self (by omega)
    · intro i hi hne; omega

/-- a new replica; a candidate -/
def freR (n i : Nat) : Rep := ⟨i, n, 0, -1, 1, [], 0, [], []⟩
def canR (n id : Nat) (v : List Bool) : Rep := ⟨id, n, 1, id, 2, [], 0, v, []⟩
def askM (id i : Nat) : Let := ⟨1, id, i, 1, 0, 0, [], 0, false⟩
def votM (id i : Nat) : Let := ⟨2, i, id, 1, 0, 0, [], 0, true⟩
theorem handle_ask {n id i : Nat} (hi : i < n) (hid : id < n) (hne : i ≠ id) : handleF (freR n i) (askM id i) = (folR n id i [] 0, [votM id i]) := by
  have hf : fineF (freR n i) (askM id i) = true := fine14 (.inl rfl) rfl (by simp only [askM]; omega) (by simp only [askM, freR]; omega) (by simp only [askM, freR]; omega) (by simp only [askM]; omega) (by simp only [askM]; omega) (by simp only [askM]; omega) (by simp only [askM]; omega)
  unfold handleF
  rw [if_neg (by simp [hf])]
  simp only
  rw [if_pos (show (askM id i).ep > (freR n i).epoch by simp only [askM, freR]; omega), if_pos (show (askM id i).kind = 1 from rfl)]
  unfold askF
  have hy : askYes { followF (freR n i) with epoch := (askM id i).ep, voted := -1 } (askM id i) = true := by
    unfold askYes
    rw [decide_eq_true_eq]
    exact ⟨rfl, .inl rfl, .inr ⟨rfl, by simp [askM, followF, freR]⟩⟩
  rw [if_pos hy, hy]
  rfl
theorem lead_first {n id : Nat} (hn : 2 ≤ n) (hid : id < n) (v : List Bool) : leadF (canR n id v) = (ledR n id [] 0 (List.replicate n 0), (osF n id).map fun k => appM id k 0 0 [] 0) := by
  have e1 : settleF { canR n id v with role := 3, votes := [], mat := (List.replicate (canR n id v).count.toNat 0).set (canR n id v).id.toNat (canR n id v).log.length } = ledR n id [] 0 (List.replicate n 0) := by
    rw [settleF_lead { canR n id v with role := 3, votes := [], mat := (List.replicate (canR n id v).count.toNat 0).set (canR n id v).id.toNat (canR n id v).log.length } n id rfl hid (by simp [canR]) (by simp [canR]),
      if_neg (by simp only [canR]; omega)]
    have : (List.replicate n (0 : Int)).set id 0 = List.replicate n 0 := by
      apply List.ext_getElem?
      intro k
      rw [List.getElem?_set, List.getElem?_replicate]
      simp only [List.length_replicate]
      by_cases hk : id = k
      · subst hk; simp [hid]
      · rw [if_neg hk]
    simp only [canR, ledR, Int.toNat_natCast, List.length_nil, Int.cast_ofNat_Int]
    rw [this]
  unfold leadF
  simp only at e1 ⊢
  rw [e1]
  refine congrArg (Prod.mk _) ?_
  rw [show (canR n id v).count.toNat = n by simp [canR], show (canR n id v).id = (id : Int) from rfl, map_others]
  apply List.map_congr_left
  intro k hk
  rw [logLet_at (p := 0) (by rw [List.getElem?_replicate, if_pos (osF_mem.1 hk).1]; rfl)]
  rfl
theorem countT_set {v : List Bool} {i : Nat} (h : v[i]? = some false) : countT (v.set i true) = countT v + 1 := by
  unfold countT
  have hi := (List.getElem?_eq_some_iff.1 h).1
  rw [List.countP_set hi]
  have : v[i] = false := (List.getElem?_eq_some_iff.1 h).2
  rw [this]
  simp
theorem handle_vote {n id i : Nat} (hi : i < n) (hid : id < n) (hne : i ≠ id) {v : List Bool} : handleF (canR n id v) (votM id i) = if 2 * countT (v.set i true) > n then leadF (canR n id (v.set i true)) else (canR n id (v.set i true), []) := by
  have hf : fineF (canR n id v) (votM id i) = true := fine2 rfl rfl (by simp only [votM]; omega) (by simp only [votM, canR]; omega) (by simp only [votM, canR]; omega) (by simp only [votM]; omega) (by simp only [votM]; omega)
  rw [handle_eq hf rfl, if_neg (by simp only [votM]; omega), if_pos (show (votM id i).kind = 2 from rfl)]
  unfold voteF
  rw [if_neg (by simp [canR, votM])]
  rfl
theorem handle_late {n id i : Nat} (hi : i < n) (hid : id < n) (hne : i ≠ id) {L : List Item} {c : Int} {mat : List Int} : handleF (ledR n id L c mat) (votM id i) = (ledR n id L c mat, []) := by
  have hf : fineF (ledR n id L c mat) (votM id i) = true := fine2 rfl rfl (by simp only [votM]; omega) (by simp only [votM, ledR]; omega) (by simp only [votM, ledR]; omega) (by simp only [votM]; omega) (by simp only [votM]; omega)
  rw [handle_eq hf rfl, if_neg (by simp only [votM]; omega), if_pos (show (votM id i).kind = 2 from rfl)]
  unfold voteF
  rw [if_pos (by left; simp [ledR])]
theorem all_late {n id : Nat} (hid : id < n) {L : List Item} {c : Int} {mat : List Int} : ∀ (os : List Nat), (∀ i ∈ os, i < n ∧ i ≠ id) → hAll (ledR n id L c mat) (os.map (votM id)) = (ledR n id L c mat, []) := by
  intro os
  induction os with
  | nil => intro _; rfl
  | cons i os ih =>
    intro ho
    obtain ⟨hi, hne⟩ := ho i (List.mem_cons_self ..)
    simp only [List.map_cons, hAll, handle_late hi hid hne, List.nil_append]
    rw [ih (fun k hk => ho k (List.mem_cons_of_mem _ hk))]
theorem all_votes {n id : Nat} (hn : 2 ≤ n) (hid : id < n) : ∀ (os : List Nat), (∀ i ∈ os, i < n ∧ i ≠ id) → os.Nodup → ∀ v : List Bool, (∀ i ∈ os, v[i]? = some false) → 2 * countT v ≤ n → 2 * (countT v + os.length) > n →
    hAll (canR n id v) (os.map (votM id)) = (ledR n id [] 0 (List.replicate n 0), (osF n id).map fun k => appM id k 0 0 [] 0) := by
  intro os
  induction os with
  | nil => intro _ _ v _ h1 h2; simp at h2; omega
  | cons i os ih =>
    intro ho hnd v hv h1 h2
    obtain ⟨hi, hne⟩ := ho i (List.mem_cons_self ..)
    obtain ⟨hin, hnd⟩ := List.nodup_cons.1 hnd
    have hc := countT_set (hv i (List.mem_cons_self ..))
    have ho' : ∀ k ∈ os, k < n ∧ k ≠ id := fun k hk => ho k (List.mem_cons_of_mem _ hk)
    simp only [List.map_cons, hAll, handle_vote hi hid hne]
    by_cases hw : 2 * countT (v.set i true) > n
    · rw [if_pos hw, lead_first hn hid, all_late hid os ho']
      simp
    · rw [if_neg hw, ih ho' hnd (v.set i true) (fun k hk => by rw [List.getElem?_set_ne (fun h => hin (by rw [h]; exact hk))]; exact hv k (List.mem_cons_of_mem _ hk)) (by omega) (by simp only [List.length_cons] at h2; omega)]
      simp

theorem stage_first (it : Int → ByteArray) {n id : Nat} (h1 : 1 ≤ n) (h5 : n ≤ 5) (hid : id < n) {s : WS} (hr : ∀ i, i < n → s.reps[i]? = some (freR n i)) (hlen : s.reps.length = n) (hl : s.lets = []) :
    ∃ t e, Del it (playF it s 1 id 0) 0 t e ∧ e = t.lets.length ∧ Quiet n id [] 0 t ∧ e ≤ 20 := by
  have hlead := hr id hid
  have hp : playF it s 1 id 0 = stepF s id (timeoutF (freR n id)) := by
    unfold playF
    rw [if_neg (by omega), if_pos rfl]
    simp only [Int.toNat_natCast, hlead]
  have ht : timeoutF (freR n id) = if 2 * 1 > (n : Int) then leadF (canR n id ((List.replicate n false).set id true)) else (canR n id ((List.replicate n false).set id true), (osF n id).map (askM id)) := by
    unfold timeoutF
    rw [if_neg (by simp only [freR]; omega), if_neg (by simp only [freR]; omega)]
    simp only
    have e1 : ({ freR n id with epoch := (freR n id).epoch + 1, role := 2, voted := (freR n id).id, votes := (List.replicate (freR n id).count.toNat false).set (freR n id).id.toNat true } : Rep) = canR n id ((List.replicate n false).set id true) := by
      simp only [freR, canR, Int.toNat_natCast]; rfl
    simp only at e1 ⊢
    rw [e1]
    have e2 : (othersF (freR n id).count.toNat (freR n id).id) = othersF n (id : Int) := by simp [freR]
    rw [e2, map_others]
    rfl
  rw [hp, ht]
  by_cases h2 : 2 ≤ n
  · rw [if_neg (by omega)]
    have hid' : id ∉ osF n id := fun h => (osF_mem.1 h).2 rfl
    have hol := osF_len hid
    obtain ⟨s1, d1, e1, f1, g1, k1⟩ := del_each it (askM id) (votM id) (freR n) (fun i => folR n id i [] 0) (osF n id) [] [] (stepF s id (canR n id ((List.replicate n false).set id true), (osF n id).map (askM id))) (by simp [stepF, hl]) (by simp [stepF]; omega) (osF_nodup n id) (fun i hi => by
      obtain ⟨a, b⟩ := osF_mem.1 hi
      refine ⟨?_, rfl, handle_ask a hid b⟩
      simp only [stepF]
      rw [List.getElem?_set_ne (fun h => b h.symm)]
      exact hr i a)
    obtain ⟨s2, d2, e2, f2, g2, k2⟩ := del_one it id ((osF n id).map (votM id)) ((osF n id).map (askM id)) [] s1 (canR n id ((List.replicate n false).set id true)) (by rw [e1]; simp [stepF, hl]) (by rw [f1]; simp [stepF]; omega) (by
      rw [g1 _ hid']
      simp only [stepF]
      exact List.getElem?_set_self (by omega)) (fun m hm => by obtain ⟨i, _, rfl⟩ := List.mem_map.1 hm; rfl)
    have hcount : countT ((List.replicate n false).set id true) = 1 := by
      rw [countT_set (by rw [List.getElem?_replicate, if_pos hid])]
      unfold countT
      rw [List.countP_replicate]
      simp
    have hv := all_votes h2 hid (osF n id) (fun i hi => osF_mem.1 hi) (osF_nodup n id) ((List.replicate n false).set id true) (fun i hi => by
      rw [List.getElem?_set_ne (fun h => (osF_mem.1 hi).2 h.symm), List.getElem?_replicate, if_pos (osF_mem.1 hi).1]) (by omega) (by omega)
    rw [hv] at e2 k2
    obtain ⟨t, e, a, b1, c1, d⟩ := stage_apps it (c := 0) (q0 := 0) (q := 0) (mat := List.replicate n (0 : Int)) (L0 := []) (X := []) (L := []) (s := s2) (pre := (osF n id).map (askM id) ++ (osF n id).map (votM id)) h2 h5 hid rfl (fun x hx => by cases hx) (by simp) (by simp) (by omega) (by omega) (by simp) (by simp) (fun x hx => by rw [List.mem_replicate] at hx; simp [hx.2]) (by rw [List.getElem?_replicate, if_pos hid]; rfl)
      (by rw [f2, f1]; simpa [stepF] using hlen) k2 (fun i hi hne => by rw [g2 i hne]; exact k1 i (osF_mem.2 ⟨hi, hne⟩)) (by rw [e2, e1]; simp [stepF, hl, lastF])
    refine ⟨t, e, ?_, b1, by simpa using c1, ?_⟩
    · refine Del.trans (by simpa using d1) (Del.trans (by simpa using d2) ?_)
      simpa using a
    · simp only [List.length_append, List.length_map] at d
      omega
  · have hn1 : n = 1 := by omega
    subst hn1
    have hid0 : id = 0 := by omega
    subst hid0
    rw [if_pos (by omega)]
    have e1 : leadF (canR 1 0 ((List.replicate 1 false).set 0 true)) = (ledR 1 0 [] 0 (List.replicate 1 0), []) := by
      unfold leadF
      simp only
      have : settleF { canR 1 0 ((List.replicate 1 false).set 0 true) with role := 3, votes := [], mat := (List.replicate (canR 1 0 ((List.replicate 1 false).set 0 true)).count.toNat 0).set (canR 1 0 ((List.replicate 1 false).set 0 true)).id.toNat (canR 1 0 ((List.replicate 1 false).set 0 true)).log.length } = ledR 1 0 [] 0 (List.replicate 1 0) := by
        unfold settleF
        rw [if_pos (by simp [canR])]
        rfl
      simp only at this
      rw [this]
      rfl
    rw [e1]
    refine ⟨_, _, .refl _ _, ?_, ⟨?_, ?_, ?_⟩, by omega⟩
    · simp [stepF, hl]
    · simpa [stepF] using hlen
    · simp only [stepF]; exact List.getElem?_set_self (by omega)
    · intro i hi hne; omega
end Go.Proofs.YtgohploghbimlaaDoor

/- Plain laws: the course of one leader's numbers. -/
namespace Go.Proofs.YtgohploghbimlaaDoor

/-- the number's text -/
def itoaF (n : Int) : ByteArray := ⟨(Lib.itoa n).toArray⟩
theorem itoaF_short {b : Int} (h0 : 0 ≤ b) (h1 : b ≤ 255) : ((itoaF b).size : Int) ≤ 8000 := by
  have h : (Lib.decDigits b.toNat).length ≤ 3 := by
    have h2 : b.toNat < 1000 := by omega
    generalize b.toNat = u at h2
    rw [Lib.decDigits]
    split
    · simp
    · rw [Lib.decDigits]
      split
      · simp
      · rw [Lib.decDigits, dif_pos (by omega)]
        simp
  have e : (itoaF b).size = (Lib.itoa b).length := by simp [itoaF, ByteArray.size]
  rw [e]
  unfold Lib.itoa
  rw [if_neg (by omega)]
  omega
/-- the leader's log -/
def logF (l : List Int) : List Item := l.map fun b => ⟨1, itoaF b⟩
theorem logF_ones (l : List Int) : Ones (logF l) := by
  intro x hx
  obtain ⟨b, _, rfl⟩ := List.mem_map.1 hx
  rfl
theorem logF_len (l : List Int) : (logF l).length = l.length := by simp [logF]
/-- the events: a timeout, the numbers, a timeout -/
def evsF (id : Nat) (l : List Int) : List (Int × Int × Int) := (1, (id : Int), 0) :: (l.map fun b => (3, (id : Int), b)) ++ [(1, (id : Int), 0)]
theorem evsF_len (id : Nat) (l : List Int) : (evsF id l).length = l.length + 2 := by simp [evsF]
theorem evsF_succ (id : Nat) (l : List Int) (k : Nat) : (evsF id l)[k + 1]? = if h : k < l.length then some (3, (id : Int), l[k]) else if k = l.length then some (1, (id : Int), 0) else none := by
  unfold evsF
  rw [List.cons_append, List.getElem?_cons_succ]
  split
  · next h => rw [List.getElem?_append_left (by simpa using h)]; simp [h]
  · next h =>
    rw [List.getElem?_append_right (by simp; omega)]
    split
    · next h2 => subst h2; simp
    · next h2 => exact List.getElem?_eq_none (by simp; omega)
/-- behind the first q events -/
def Stage (n id : Nat) (l : List Int) (q : Nat) (s : WS) : Prop :=
  (q = 0 ∧ (∀ i, i < n → s.reps[i]? = some (freR n i)) ∧ s.reps.length = n ∧ s.lets = []) ∨
  (∃ k, q = k + 1 ∧ k ≤ l.length ∧ Quiet n id (logF (l.take k)) ((k - 1 : Nat) : Int) s) ∨
  (q = l.length + 2 ∧ Quiet n id (logF l) l.length s)
theorem stage_step {n id : Nat} (h1 : 1 ≤ n) (h5 : n ≤ 5) (hid : id < n) {l : List Int} (hl : l.length ≤ 20) (hb : ∀ b ∈ l, 0 ≤ b ∧ b ≤ 255) {q : Nat} {s : WS} (hs : Stage n id l q s) {k a b : Int} (he : (evsF id l)[q]? = some (k, a, b)) :
    ∃ t e, Del itoaF (playF itoaF s k a b) s.lets.length t e ∧ e = t.lets.length ∧ Stage n id l (q + 1) t ∧ e ≤ s.lets.length + 20 ∧ ∃ r, t.reps[id]? = some r ∧ r.role = 3 := by
  rcases hs with ⟨rfl, g1, g2, g3⟩ | ⟨k0, rfl, hk, hq⟩ | ⟨rfl, _⟩
  · have : (k, a, b) = (1, (id : Int), 0) := by
      have : (evsF id l)[0]? = some (1, (id : Int), 0) := rfl
      rw [this] at he
      exact (Option.some.inj he).symm
    simp only [Prod.mk.injEq] at this
    obtain ⟨rfl, rfl, rfl⟩ := this
    obtain ⟨t, e, a1, a2, a3, a4⟩ := stage_first itoaF h1 h5 hid g1 g2 g3
    refine ⟨t, e, by simpa [g3] using a1, a2, .inr (.inl ⟨0, rfl, Nat.zero_le _, by simpa [logF] using a3⟩), by omega, _, a3.lead, rfl⟩
  · rw [evsF_succ] at he
    have hLl : (logF (l.take k0)).length = k0 := by rw [logF_len, List.length_take]; omega
    split at he
    · next hlt =>
      simp only [Option.some.injEq, Prod.mk.injEq] at he
      obtain ⟨rfl, rfl, rfl⟩ := he
      have hbb := hb _ (List.getElem_mem hlt)
      obtain ⟨t, e, a1, a2, a3, a4⟩ := stage_prop itoaF h1 h5 hid (logF_ones _) (by omega) (by omega) (by omega) hq l[k0] (itoaF_short hbb.1 hbb.2)
      refine ⟨t, e, a1, a2, .inr (.inl ⟨k0 + 1, rfl, hlt, ?_⟩), by omega, _, a3.lead, rfl⟩
      rw [hLl] at a3
      have e1 : logF (l.take k0) ++ [(⟨1, itoaF l[k0]⟩ : Item)] = logF (l.take (k0 + 1)) := by
        rw [List.take_succ_eq_append_getElem hlt]
        unfold logF
        rw [List.map_append]
        rfl
      rw [e1] at a3
      exact a3
    · split at he
      · next h1 h2 =>
        simp only [Option.some.injEq, Prod.mk.injEq] at he
        obtain ⟨rfl, rfl, rfl⟩ := he
        obtain ⟨t, e, a1, a2, a3, a4⟩ := stage_last itoaF ‹1 ≤ n› h5 hid (logF_ones _) (by omega) (by omega) (by omega) hq
        rw [hLl] at a3
        rw [List.take_of_length_le (by omega), h2] at a3
        exact ⟨t, e, a1, a2, .inr (.inr ⟨by omega, a3⟩), by omega, _, a3.lead, rfl⟩
      · cases he
  · have := (List.getElem?_eq_some_iff.1 he).1
    rw [evsF_len] at this
    omega
theorem stage_end {n id : Nat} {l : List Int} {s : WS} (hs : Stage n id l (l.length + 2) s) : s.reps.length = n ∧ ∀ k, k < n → ∃ r, s.reps[k]? = some r ∧ confirmedF r = l.map itoaF := by
  have hq : Quiet n id (logF l) l.length s := by
    rcases hs with ⟨h, _⟩ | ⟨k, h, hk, _⟩ | ⟨_, h⟩
    · omega
    · omega
    · exact h
  refine ⟨hq.len, fun k hk => ?_⟩
  have e1 : ∀ c : Int, c = l.length → ((logF l).take c.toNat).map Item.tx = l.map itoaF := by
    rintro c rfl
    rw [List.take_of_length_le (by rw [logF_len]; omega)]
    simp [logF]
  by_cases h : k = id
  · subst h
    exact ⟨_, hq.lead, e1 _ (by simp only [ledR]; rw [logF_len])⟩
  · exact ⟨_, hq.fol k hk h, e1 _ rfl⟩
end Go.Proofs.YtgohploghbimlaaDoor
