/- Texts that belong together: KA, KB, KC, KD, KE, KF, KG, KH. -/
import Derived.Test.YtgohploghbimlaaDoorKPlain
set_option linter.unusedVariables false
set_option linter.unusedSimpArgs false
set_option linter.unusedSectionVars false
/- Plain laws: the ghost history of an election protocol, and what is said of it. -/
namespace Go.Proofs.YtgohploghbimlaaDoor

/-- a leader that was: its number, its log (that only grows), those that elected it -/
structure Led where
  id : Int
  log : List Item
  quo : List Int
/-- for each epoch its leader; the log of a replica as it became a candidate in an epoch -/
structure Gh where
  led : Int → Option Led
  cand : Int → Int → Option (List Item)

def Vote (G : Gh) (ls : List Let) (j e i : Int) : Prop := (∃ m ∈ ls, m.kind = 2 ∧ m.yes = true ∧ m.src = j ∧ m.dst = i ∧ m.ep = e) ∨ (j = i ∧ ∃ c, G.cand e i = some c)
def Ack (G : Gh) (ls : List Let) (j e : Int) (q : Nat) : Prop := (∃ m ∈ ls, m.kind = 4 ∧ m.yes = true ∧ m.src = j ∧ m.ep = e ∧ (q : Int) ≤ m.pos) ∨ (∃ l, G.led e = some l ∧ l.id = j ∧ q ≤ l.log.length)
def GoodP (G : Gh) (P : List Item) : Prop := ∀ k, 0 < k → k ≤ P.length → ∃ l, G.led (lastF (P.take k)) = some l ∧ P.take k <+: l.log
/-- the first q items of one epoch's leader are not those of another's -/
def Clash (G : Gh) (e : Int) (q : Nat) (d : Int) : Prop := ∃ l k, G.led e = some l ∧ q ≤ l.log.length ∧ G.led d = some k ∧ ¬ l.log.take q <+: k.log
def Maj (n : Nat) (Q : List Int) : Prop := Q.Nodup ∧ (∀ j ∈ Q, 0 ≤ j ∧ j < n) ∧ n < 2 * Q.length
def Cur (n : Nat) (e : Int) (L : List Item) (q : Nat) : Prop := lastF (L.take q) = e ∨ n = 1
def Comm (n : Nat) (G : Gh) (ls : List Let) (e : Int) (q : Nat) : Prop := ∃ l, G.led e = some l ∧ q ≤ l.log.length ∧ Cur n e l.log q ∧ ∃ Q, Maj n Q ∧ ∀ j ∈ Q, Ack G ls j e q
/-- the first c items of P are confirmed, in an epoch up to E -/
def Conf (n : Nat) (G : Gh) (ls : List Let) (P : List Item) (c : Nat) (E : Int) : Prop := c = 0 ∨ ∃ e q l, Comm n G ls e q ∧ e ≤ E ∧ G.led e = some l ∧ c ≤ q ∧ c ≤ P.length ∧ P.take c <+: l.log
/-- c holds what j acknowledged in epochs before e, or a leader between did not -/
def Sees (n : Nat) (G : Gh) (ls : List Let) (j e : Int) (c : List Item) : Prop := ∀ e0 q l0, Ack G ls j e0 q → e0 < e → G.led e0 = some l0 → Cur n e0 l0.log q → l0.log.take q <+: c ∨ ∃ d, e0 < d ∧ d < e ∧ Clash G e0 q d

structure RI (n : Nat) (G : Gh) (ls : List Let) (r : Rep) : Prop where
  id0 : 0 ≤ r.id
  id1 : r.id < n
  cnt : r.count = n
  ep0 : 0 ≤ r.epoch
  prop : properF r.log 1 r.epoch = true
  cf0 : 0 ≤ r.conf
  cf1 : r.conf ≤ r.log.length
  good : GoodP G r.log
  lead : r.role = 3 → 0 < r.epoch ∧ ∃ l, G.led r.epoch = some l ∧ l.id = r.id ∧ l.log = r.log
  cand : r.role = 2 → 0 < r.epoch ∧ G.cand r.epoch r.id = some r.log ∧ (∀ l, G.led r.epoch = some l → l.id ≠ r.id) ∧ r.votes.length = n ∧ ∀ k : Nat, r.votes[k]? = some true → Vote G ls k r.epoch r.id
  mat : r.role = 3 → r.mat.length = n ∧ ∀ (k : Nat) (x : Int), r.mat[k]? = some x → 0 ≤ x ∧ x ≤ r.log.length ∧ (x = 0 ∨ Ack G ls k r.epoch x.toNat)
  vote : ∀ e i, Vote G ls r.id e i → e ≤ r.epoch ∧ 0 ≤ i ∧ (e = r.epoch → r.voted = i) ∧ ∃ c, G.cand e i = some c ∧ (G.led e = none → Sees n G ls r.id e c)
  uniq : ∀ e i k, Vote G ls r.id e i → Vote G ls r.id e k → i = k
  acks : ∀ e q, Ack G ls r.id e q → e ≤ r.epoch ∧ ∃ l, G.led e = some l ∧ q ≤ l.log.length ∧ (l.log.take q <+: r.log ∨ ∃ d, e < d ∧ d ≤ r.epoch ∧ Clash G e q d)
  quo : ∀ e l, G.led e = some l → r.id ∈ l.quo → e ≤ r.epoch ∧ Vote G ls r.id e l.id ∧ Sees n G ls r.id e l.log
  conf : Conf n G ls r.log r.conf.toNat r.epoch

structure LedOk (n : Nat) (G : Gh) (e : Int) (l : Led) : Prop where
  e1 : 1 ≤ e
  id0 : 0 ≤ l.id
  id1 : l.id < n
  prop : properF l.log 1 e = true
  good : GoodP G l.log
  maj : Maj n l.quo
structure CandOk (n : Nat) (G : Gh) (e i : Int) (c : List Item) : Prop where
  id0 : 0 ≤ i
  id1 : i < n
  prop : properF c 1 (e - 1) = true
  good : GoodP G c
  led : ∀ l, G.led e = some l → l.id = i → c <+: l.log
/-- of a letter -/
structure MI (n : Nat) (G : Gh) (ls : List Let) (m : Let) : Prop where
  ask : m.kind = 1 → ∃ c, G.cand m.ep m.src = some c ∧ m.aep = lastF c ∧ m.pos = c.length
  app : m.kind = 3 → ∃ l, G.led m.ep = some l ∧ 0 ≤ m.pos ∧ m.pos ≤ l.log.length ∧ l.log.take m.pos.toNat ++ m.items <+: l.log ∧ m.aep = lastF (l.log.take m.pos.toNat) ∧ 0 ≤ m.conf ∧ m.conf ≤ l.log.length ∧ Conf n G ls l.log m.conf.toNat m.ep
structure Inv (n : Nat) (G : Gh) (s : WS) : Prop where
  led : ∀ e l, G.led e = some l → LedOk n G e l
  cand : ∀ e i c, G.cand e i = some c → CandOk n G e i c
  len : s.reps.length = n
  rep : ∀ (k : Nat) (r : Rep), s.reps[k]? = some r → r.id = k ∧ RI n G s.lets r
  lets : ∀ m ∈ s.lets, MI n G s.lets m

/-! ## lists of items -/
theorem proper_all : ∀ {l : List Item} {lo hi : Int}, properF l lo hi = true → ∀ x ∈ l, lo ≤ x.ep ∧ x.ep ≤ hi
  | [], _, _, _, x, hx => by cases hx
  | y :: l, lo, hi, h, x, hx => by
    unfold properF at h
    split at h
    · cases h
    · next hh =>
      rcases List.mem_cons.1 hx with rfl | hx
      · omega
      · have := proper_all h x hx; omega
theorem lastF_append (a : List Item) (x : Item) : lastF (a ++ [x]) = x.ep := by simp [lastF]
theorem lastF_nil : lastF [] = 0 := rfl
theorem take_snoc {l : List Item} {k : Nat} (h : k < l.length) : ∃ x, x ∈ l ∧ l[k]? = some x ∧ l.take (k + 1) = l.take k ++ [x] ∧ lastF (l.take (k + 1)) = x.ep := by
  refine ⟨l[k], List.getElem_mem h, List.getElem?_eq_getElem h, ?_, ?_⟩
  · rw [List.take_succ_eq_append_getElem h]
  · rw [List.take_succ_eq_append_getElem h, lastF_append]
theorem lastF_ge {l : List Item} {lo hi : Int} (h : properF l lo hi = true) {k : Nat} (h0 : 0 < k) (hk : k ≤ l.length) : lo ≤ lastF (l.take k) ∧ lastF (l.take k) ≤ hi := by
  obtain ⟨k, rfl⟩ : ∃ j, k = j + 1 := ⟨k - 1, by omega⟩
  obtain ⟨x, hx, _, _, e⟩ := take_snoc (l := l) (k := k) (by omega)
  rw [e]
  exact proper_all h x hx
/-- epochs do not fall along a log -/
theorem lastF_mono {l : List Item} {lo hi : Int} (h : properF l lo hi = true) {a b : Nat} (h0 : 0 < a) (hab : a ≤ b) (hb : b ≤ l.length) : lastF (l.take a) ≤ lastF (l.take b) := by
  have hd : properF (l.drop (a - 1)) (lastF (l.take a)) hi = true := by
    obtain ⟨a, rfl⟩ : ∃ j, a = j + 1 := ⟨a - 1, by omega⟩
    have gen : ∀ (l : List Item) (lo : Int) (a : Nat), properF l lo hi = true → a < l.length → properF (l.drop a) (lastF (l.take (a + 1))) hi = true := by
      intro l
      induction l with
      | nil => intro lo a _ h; simp at h
      | cons y l ih =>
        intro lo a hp ha
        unfold properF at hp
        split at hp
        · cases hp
        · next hh =>
          cases a with
          | zero =>
            have : lastF ((y :: l).take 1) = y.ep := rfl
            simp only [Nat.zero_add, List.drop_zero]
            rw [this]
            unfold properF
            rw [if_neg (by omega)]
            exact hp
          | succ a =>
            have hl : a < l.length := by simpa using ha
            have e : lastF ((y :: l).take (a + 1 + 1)) = lastF (l.take (a + 1)) := by
              obtain ⟨x, _, _, _, e1⟩ := take_snoc hl
              obtain ⟨x', _, hx', _, e2⟩ := take_snoc (l := y :: l) (k := a + 1) ha
              rw [e1, e2]
              simp only [List.getElem?_cons_succ] at hx'
              have : some x' = some x := by rw [← hx']; obtain ⟨x2, _, h2, _, h3⟩ := take_snoc hl; rw [h2]; congr 1; have := h3.symm.trans e1; have hh : l[a]? = some x2 := h2; rename_i hx _ _; simp_all
              cases this; rfl
            rw [e, List.drop_succ_cons]
            exact ih _ a hp hl
    simpa using gen l lo a h (by omega)
  obtain ⟨b, rfl⟩ : ∃ j, b = j + 1 := ⟨b - 1, by omega⟩
  obtain ⟨x, _, hx, _, e⟩ := take_snoc (l := l) (k := b) (by omega)
  rw [e]
  refine (proper_all hd x ?_).1
  rw [List.mem_iff_getElem?]
  exact ⟨b - (a - 1), by rw [List.getElem?_drop]; rw [← hx]; congr 1; omega⟩
theorem prefix_take {a b : List Item} (h : a <+: b) {k : Nat} (hk : k ≤ a.length) : a.take k = b.take k := by
  obtain ⟨t, rfl⟩ := h
  rw [List.take_append_of_le_length hk]
theorem take_prefix_of {a b : List Item} (h : a <+: b) (k : Nat) : a.take k <+: b := (List.take_prefix k a).trans h
theorem prefix_of_len {a b c : List Item} (ha : a <+: c) (hb : b <+: c) (h : a.length ≤ b.length) : a <+: b := List.prefix_of_prefix_length_le ha hb h
theorem prefix_eq_take {a b : List Item} (h : a <+: b) : a = b.take a.length := (List.prefix_iff_eq_take.1 h)

/-! ## logs that leaders have made -/
theorem GoodP.pre {G : Gh} {P P' : List Item} (h : GoodP G P) (hp : P' <+: P) : GoodP G P' := by
  intro k h0 hk
  have e : P'.take k = P.take k := prefix_take hp hk
  rw [e]
  exact h k h0 (Nat.le_trans hk hp.length_le)
theorem GoodP.nil (G : Gh) : GoodP G [] := by intro k h0 hk; simp at hk; omega
theorem GoodP.agree {G : Gh} {P Q : List Item} (hP : GoodP G P) (hQ : GoodP G Q) {k : Nat} (h1 : k ≤ P.length) (h2 : k ≤ Q.length) (he : lastF (P.take k) = lastF (Q.take k)) : P.take k = Q.take k := by
  by_cases h0 : k = 0
  · subst h0; rfl
  obtain ⟨l, hl, a⟩ := hP k (by omega) h1
  obtain ⟨l', hl', b⟩ := hQ k (by omega) h2
  rw [he, hl'] at hl
  cases hl
  have e1 := prefix_eq_take a
  have e2 := prefix_eq_take b
  have l1 : (P.take k).length = k := by rw [List.length_take]; omega
  have l2 : (Q.take k).length = k := by rw [List.length_take]; omega
  rw [e1, e2, l1, l2]
theorem GoodP.snoc {G : Gh} {P : List Item} {x : Item} (h : GoodP G P) {l : Led} (hl : G.led x.ep = some l) (hp : P ++ [x] <+: l.log) : GoodP G (P ++ [x]) := by
  intro k h0 hk
  by_cases h1 : k ≤ P.length
  · rw [List.take_append_of_le_length h1]
    exact h k h0 h1
  · have : k = (P ++ [x]).length := by simp at hk ⊢; omega
    rw [this, List.take_length, lastF_append]
    exact ⟨l, hl, hp⟩

/-! ## majorities meet -/
theorem maj_meet {n : Nat} {Q R : List Int} (hQ : Maj n Q) (hR : Maj n R) : ∃ j, j ∈ Q ∧ j ∈ R := by
  apply Classical.byContradiction
  intro hno
  have hd : ∀ j ∈ Q, j ∉ R := fun j h1 h2 => hno ⟨j, h1, h2⟩
  have nd : (Q ++ R).Nodup := List.nodup_append.2 ⟨hQ.1, hR.1, fun a ha b hb hab => hd a ha (hab ▸ hb)⟩
  have sub : (Q ++ R) ⊆ (List.range n).map (fun k => ((k : Nat) : Int)) := by
    intro j hj
    have h : 0 ≤ j ∧ j < n := by
      rcases List.mem_append.1 hj with h | h
      · exact hQ.2.1 j h
      · exact hR.2.1 j h
    rw [List.mem_map]
    exact ⟨j.toNat, by rw [List.mem_range]; omega, by omega⟩
  have := nd.length_le_of_subset sub
  simp at this
  have h1 := hQ.2.2
  have h2 := hR.2.2
  omega
end Go.Proofs.YtgohploghbimlaaDoor

/- Plain laws: the ghost history grows; what is confirmed stays. -/
namespace Go.Proofs.YtgohploghbimlaaDoor

/-- a later ghost -/
structure Ext (G G' : Gh) : Prop where
  led : ∀ e l, G.led e = some l → ∃ l' t, G'.led e = some l' ∧ l'.id = l.id ∧ l'.quo = l.quo ∧ l'.log = l.log ++ t ∧ ∀ x ∈ t, x.ep = e
  cand : ∀ e i c, G.cand e i = some c → G'.cand e i = some c
theorem Ext.refl (G : Gh) : Ext G G := ⟨fun e l h => ⟨l, [], h, rfl, rfl, by simp, by simp⟩, fun _ _ _ h => h⟩

section
variable {n : Nat} {G G' : Gh} {ls ls' : List Let}
theorem GoodP.ext {P : List Item} (h : GoodP G P) (x : Ext G G') : GoodP G' P := by
  intro k h0 hk
  obtain ⟨l, hl, hp⟩ := h k h0 hk
  obtain ⟨l', t, h1, _, _, h2, _⟩ := x.led _ _ hl
  exact ⟨l', h1, hp.trans (by rw [h2]; exact List.prefix_append _ _)⟩
theorem Vote.ext {j e i : Int} (h : Vote G ls j e i) (x : Ext G G') (hs : ∀ m ∈ ls, m ∈ ls') : Vote G' ls' j e i := by
  rcases h with ⟨m, hm, r⟩ | ⟨rfl, c, hc⟩
  · exact .inl ⟨m, hs m hm, r⟩
  · exact .inr ⟨rfl, c, x.cand _ _ _ hc⟩
theorem Ack.ext {j e : Int} {q : Nat} (h : Ack G ls j e q) (x : Ext G G') (hs : ∀ m ∈ ls, m ∈ ls') : Ack G' ls' j e q := by
  rcases h with ⟨m, hm, r⟩ | ⟨l, hl, hi, hq⟩
  · exact .inl ⟨m, hs m hm, r⟩
  · obtain ⟨l', t, h1, h2, _, h3, _⟩ := x.led _ _ hl
    exact .inr ⟨l', h1, h2.trans hi, by rw [h3, List.length_append]; omega⟩
theorem take_ext {e : Int} {l l' : Led} {t : List Item} (h : l'.log = l.log ++ t) {q : Nat} (hq : q ≤ l.log.length) : l'.log.take q = l.log.take q := by
  rw [h, List.take_append_of_le_length hq]
theorem Clash.ext {e d : Int} {q : Nat} (h : Clash G e q d) (hed : e < d) (hp : ∀ l, G.led e = some l → ∀ x ∈ l.log, x.ep ≤ e) (x : Ext G G') : Clash G' e q d := by
  obtain ⟨l, k, hl, hq, hk, hn⟩ := h
  obtain ⟨l', t, h1, _, _, h3, _⟩ := x.led _ _ hl
  obtain ⟨k', u, g1, _, _, g3, g4⟩ := x.led _ _ hk
  refine ⟨l', k', h1, by rw [h3, List.length_append]; omega, g1, fun hc => hn ?_⟩
  rw [take_ext (e := e) h3 hq, g3] at hc
  have hall : ∀ y ∈ l.log.take q, y.ep ≤ e := fun y hy => hp l hl y (List.mem_of_mem_take hy)
  by_cases hlen : (l.log.take q).length ≤ k.log.length
  · exact prefix_of_len hc (List.prefix_append _ _) hlen
  · exfalso
    have hu : k.log.length < (l.log.take q).length := by omega
    obtain ⟨y, hy, hy2, _, _⟩ := take_snoc hu
    obtain ⟨v, hv⟩ := hc
    have : (k.log ++ u)[k.log.length]? = some y := by rw [← hv, List.getElem?_append_left hu]; exact hy2
    rw [List.getElem?_append_right (Nat.le_refl _), Nat.sub_self] at this
    have := g4 y (List.mem_of_getElem? this)
    have := hall y hy
    omega
theorem Cur.ext {e : Int} {l l' : Led} {t : List Item} {q : Nat} (h : Cur n e l.log q) (hq : q ≤ l.log.length) (hl : l'.log = l.log ++ t) : Cur n e l'.log q := by
  unfold Cur at *
  rw [take_ext (e := e) hl hq]
  exact h
theorem Comm.ext {e : Int} {q : Nat} (h : Comm n G ls e q) (x : Ext G G') (hs : ∀ m ∈ ls, m ∈ ls') : Comm n G' ls' e q := by
  obtain ⟨l, hl, hq, hc, Q, hQ, ha⟩ := h
  obtain ⟨l', t, h1, _, _, h3, _⟩ := x.led _ _ hl
  exact ⟨l', h1, by rw [h3, List.length_append]; omega, hc.ext hq h3, Q, hQ, fun j hj => (ha j hj).ext x hs⟩
theorem Conf.ext {P P' : List Item} {c : Nat} {E E' : Int} (h : Conf n G ls P c E) (x : Ext G G') (hs : ∀ m ∈ ls, m ∈ ls') (hE : E ≤ E') (hP : P <+: P') : Conf n G' ls' P' c E' := by
  rcases h with h | ⟨e, q, l, h1, h2, h3, h4, h5, h6⟩
  · exact .inl h
  · obtain ⟨l', t, g1, _, _, g3, _⟩ := x.led _ _ h3
    have := hP.length_le
    refine .inr ⟨e, q, l', h1.ext x hs, by omega, g1, h4, by omega, ?_⟩
    rw [← prefix_take hP h5]
    exact h6.trans (by rw [g3]; exact List.prefix_append _ _)
theorem Conf.less {P : List Item} {c c' : Nat} {E : Int} (h : Conf n G ls P c E) (hc : c' ≤ c) : Conf n G ls P c' E := by
  rcases h with h | ⟨e, q, l, h1, h2, h3, h4, h5, h6⟩
  · exact .inl (by omega)
  · refine .inr ⟨e, q, l, h1, h2, h3, by omega, by omega, ?_⟩
    have : P.take c' = (P.take c).take c' := by rw [List.take_take]; congr 1; omega
    rw [this]
    exact take_prefix_of h6 _
theorem MI.ext {m : Let} (h : MI n G ls m) (x : Ext G G') (hs : ∀ m ∈ ls, m ∈ ls') : MI n G' ls' m := by
  refine ⟨fun hk => ?_, fun hk => ?_⟩
  · obtain ⟨c, h1, h2, h3⟩ := h.ask hk
    exact ⟨c, x.cand _ _ _ h1, h2, h3⟩
  · obtain ⟨l, h1, h2, h3, h4, h5, h6, h7, h8⟩ := h.app hk
    obtain ⟨l', t, g1, _, _, g3, _⟩ := x.led _ _ h1
    have e : l'.log.take m.pos.toNat = l.log.take m.pos.toNat := take_ext (e := m.ep) g3 (by omega)
    have hp : l.log <+: l'.log := by rw [g3]; exact List.prefix_append _ _
    have := hp.length_le
    exact ⟨l', g1, h2, by omega, by rw [e]; exact h4.trans hp, by rw [e]; exact h5, h6, by omega, h8.ext x hs (Int.le_refl _) hp⟩

/-- what a majority acknowledged is in the logs of all later leaders -/
theorem Inv.complete {s : WS} (h : Inv n G s) {e : Int} {q : Nat} (hc : Comm n G s.lets e q) {l : Led} (hl : G.led e = some l) :
    ∀ (k : Nat) (d : Int) (ld : Led), d.toNat = k → e < d → G.led d = some ld → l.log.take q <+: ld.log := by
  intro k
  induction k using Nat.strongRecOn with
  | _ k ih =>
    intro d ld hk hed hd
    obtain ⟨l1, hl1, hq, hcur, Q, hQ, ha⟩ := hc
    rw [hl] at hl1; cases hl1
    obtain ⟨j, hj1, hj2⟩ := maj_meet hQ (h.led d ld hd).maj
    have hjn := hQ.2.1 j hj1
    obtain ⟨r, hr⟩ : ∃ r, s.reps[j.toNat]? = some r := ⟨_, List.getElem?_eq_getElem (by rw [h.len]; omega)⟩
    obtain ⟨hid, hri⟩ := h.rep _ _ hr
    have hjr : r.id = j := by omega
    obtain ⟨_, _, hs⟩ := hri.quo d ld hd (by rw [hjr]; exact hj2)
    rcases hs e q l (by rw [hjr]; exact ha j hj1) hed hl hcur with hp | ⟨d2, h1, h2, l2, k2, g1, g2, g3, g4⟩
    · exact hp
    · rw [hl] at g1; cases g1
      have h0 := (h.led e l hl).e1
      exact absurd (ih d2.toNat (by omega) d2 k2 rfl h1 g3) g4
/-- two majorities' lists -/
theorem Inv.agree {s : WS} (h : Inv n G s) {e d : Int} {q p : Nat} (hc : Comm n G s.lets e q) (hd : Comm n G s.lets d p) {l k : Led} (hl : G.led e = some l) (hk : G.led d = some k) (hed : e ≤ d) : l.log.take q <+: k.log := by
  by_cases he : e = d
  · subst he
    rw [hl] at hk; cases hk
    exact List.take_prefix _ _
  · exact h.complete hc hl _ d k rfl (by omega) hk
end
end Go.Proofs.YtgohploghbimlaaDoor

/- Plain laws: a replica's step leaves what is said of the others. -/
namespace Go.Proofs.YtgohploghbimlaaDoor
section
variable {n : Nat} {G G' : Gh} {ls ns : List Let} {k : Int}

/-- what a step of replica k adds to the ghost and the letters -/
structure Adds (k : Int) (G G' : Gh) (ls ns : List Let) : Prop where
  ext : Ext G G'
  led : ∀ e l, G'.led e = some l → l.id ≠ k → G.led e = some l
  cand : ∀ e i c, G'.cand e i = some c → i ≠ k → G.cand e i = some c
  src : ∀ m ∈ ns, m.src = k
  quo : ∀ e l, G.led e = none → G'.led e = some l → l.id = k ∧ (∃ c, G.cand e k = some c ∧ c <+: l.log) ∧ ∀ j ∈ l.quo, Vote G ls j e k
theorem Adds.refl (h : ∀ m ∈ ns, m.src = k) : Adds k G G ls ns :=
  ⟨.refl G, fun _ _ h _ => h, fun _ _ _ h _ => h, h, fun _ _ h1 h2 => by rw [h1] at h2; cases h2⟩
theorem Vote.back {j e i : Int} (h : Vote G' (ls ++ ns) j e i) (a : Adds k G G' ls ns) (hne : j ≠ k) : Vote G ls j e i := by
  rcases h with ⟨m, hm, r⟩ | ⟨rfl, c, hc⟩
  · rcases List.mem_append.1 hm with hm | hm
    · exact .inl ⟨m, hm, r⟩
    · exact absurd (r.2.2.1.symm.trans (a.src m hm)) hne
  · exact .inr ⟨rfl, c, a.cand _ _ _ hc hne⟩
theorem Ack.back {j e : Int} {q : Nat} (h : Ack G' (ls ++ ns) j e q) (a : Adds k G G' ls ns) (hne : j ≠ k) : Ack G ls j e q := by
  rcases h with ⟨m, hm, r⟩ | ⟨l, h1, h2, h3⟩
  · rcases List.mem_append.1 hm with hm | hm
    · exact .inl ⟨m, hm, r⟩
    · exact absurd (r.2.2.1.symm.trans (a.src m hm)) hne
  · exact .inr ⟨l, a.led _ _ h1 (by rw [h2]; exact hne), h2, h3⟩
theorem Sees.ext {ls' : List Let} {j e : Int} {c c' : List Item} (h : Sees n G ls j e c) (x : Ext G G') (hb : ∀ e l, G.led e = some l → ∀ x ∈ l.log, x.ep ≤ e) (hp : c <+: c')
    (hback : ∀ e0 q, e0 < e → Ack G' ls' j e0 q → Ack G ls j e0 q) (hq : ∀ e0 q, Ack G ls j e0 q → ∃ l, G.led e0 = some l ∧ q ≤ l.log.length) : Sees n G' ls' j e c' := by
  intro e0 q l0 ha he hl hc
  have ha' := hback e0 q he ha
  obtain ⟨l, h1, h2⟩ := hq e0 q ha'
  obtain ⟨l', t, g1, _, _, g3, _⟩ := x.led _ _ h1
  rw [hl] at g1; cases g1
  have et := take_ext (e := e0) g3 h2
  unfold Cur at hc
  rw [et] at hc ⊢
  rcases h e0 q l ha' he h1 hc with hh | ⟨d, d1, d2, d3⟩
  · exact .inl (hh.trans hp)
  · exact .inr ⟨d, d1, d2, d3.ext d1 (hb e0) x⟩
theorem Ext.none (x : Ext G G') {e : Int} (h : G'.led e = none) : G.led e = none := by
  cases hg : G.led e with
  | none => rfl
  | some l => obtain ⟨l', _, h1, _⟩ := x.led _ _ hg; rw [h] at h1; cases h1
theorem RI.other {r : Rep} (h : RI n G ls r) (a : Adds k G G' ls ns) (hb : ∀ e l, G.led e = some l → ∀ x ∈ l.log, x.ep ≤ e) (hne : r.id ≠ k) : RI n G' (ls ++ ns) r := by
  have x := a.ext
  have hs : ∀ m ∈ ls, m ∈ ls ++ ns := fun m hm => List.mem_append_left _ hm
  have hq : ∀ e0 q, Ack G ls r.id e0 q → ∃ l, G.led e0 = some l ∧ q ≤ l.log.length := fun e0 q ha => by
    obtain ⟨_, l, h1, h2, _⟩ := h.acks e0 q ha
    exact ⟨l, h1, h2⟩
  have see : ∀ e c c', Sees n G ls r.id e c → c <+: c' → Sees n G' (ls ++ ns) r.id e c' := fun e c c' hsee hp => hsee.ext x hb hp (fun e0 q _ ha => ha.back a hne) hq
  refine ⟨h.id0, h.id1, h.cnt, h.ep0, h.prop, h.cf0, h.cf1, h.good.ext x, fun h3 => ?_, fun h2 => ?_, fun h3 => ?_, fun e i hv => ?_, fun e i k hv hw => ?_, fun e q ha => ?_, fun e l' hl hj => ?_, h.conf.ext x hs (Int.le_refl _) (List.prefix_refl _)⟩
  · obtain ⟨h0, l, h1, h2, h3⟩ := h.lead h3
    obtain ⟨l', t, g1, g2, _⟩ := x.led _ _ h1
    have := a.led _ _ g1 (by rw [g2, h2]; exact hne)
    rw [h1] at this; cases this
    exact ⟨h0, l, g1, h2, h3⟩
  · obtain ⟨h0, h1, h2, h3, h4⟩ := h.cand h2
    exact ⟨h0, x.cand _ _ _ h1, fun l hl hid => h2 l (a.led _ _ hl (by rw [hid]; exact hne)) hid, h3, fun k hk => (h4 k hk).ext x hs⟩
  · obtain ⟨h1, h2⟩ := h.mat h3
    refine ⟨h1, fun k y hy => ?_⟩
    obtain ⟨g1, g2, g3⟩ := h2 k y hy
    exact ⟨g1, g2, g3.imp id fun g => g.ext x hs⟩
  · obtain ⟨h1, h2, h3, c, h4, h5⟩ := h.vote e i (hv.back a hne)
    exact ⟨h1, h2, h3, c, x.cand _ _ _ h4, fun hn => see _ _ _ (h5 (x.none hn)) (List.prefix_refl _)⟩
  · exact h.uniq e i k (hv.back a hne) (hw.back a hne)
  · obtain ⟨h1, l, h2, h3, h4⟩ := h.acks e q (ha.back a hne)
    obtain ⟨l', t, g1, _, _, g3, _⟩ := x.led _ _ h2
    refine ⟨h1, l', g1, by rw [g3, List.length_append]; omega, ?_⟩
    rw [take_ext (e := e) g3 h3]
    exact h4.imp id fun ⟨d, d1, d2, d3⟩ => ⟨d, d1, d2, d3.ext d1 (hb e) x⟩
  · cases hg : G.led e with
    | none =>
      obtain ⟨h1, ⟨c, h2, h3⟩, h4⟩ := a.quo e l' hg hl
      have hv := h4 _ hj
      obtain ⟨g1, _, _, c', g4, g5⟩ := h.vote e k hv
      rw [h2] at g4; cases g4
      exact ⟨g1, by rw [h1]; exact hv.ext x hs, see _ _ _ (g5 hg) h3⟩
    | some l =>
      obtain ⟨l2, t, g1, g2, g3, g4, _⟩ := x.led _ _ hg
      rw [hl] at g1; cases g1
      rw [g3] at hj
      obtain ⟨h1, h2, h3⟩ := h.quo e l hg hj
      exact ⟨h1, by rw [g2]; exact h2.ext x hs, see _ _ _ h3 (by rw [g4]; exact List.prefix_append _ _)⟩
theorem LedOk.ep {e : Int} {l : Led} (h : LedOk n G e l) : ∀ x ∈ l.log, x.ep ≤ e := fun x hx => (proper_all h.prop x hx).2
theorem Inv.eps {s : WS} (h : Inv n G s) : ∀ e l, G.led e = some l → ∀ x ∈ l.log, x.ep ≤ e := fun e l hl => (h.led e l hl).ep
/-- a step of replica k -/
theorem Inv.move {s : WS} (h : Inv n G s) {k : Nat} {r r' : Rep} (hk : s.reps[k]? = some r) (a : Adds k G G' s.lets ns) (hid : r'.id = k) (hr : RI n G' (s.lets ++ ns) r') (hm : ∀ m ∈ ns, MI n G' (s.lets ++ ns) m)
    (hl : ∀ e l, G'.led e = some l → G.led e = some l ∨ LedOk n G' e l) (hc : ∀ e i c, G'.cand e i = some c → G.cand e i = some c ∨ CandOk n G' e i c) : Inv n G' (stepF s k (r', ns)) := by
  refine ⟨fun e l hg => ?_, fun e i c hg => ?_, by simp only [stepF, List.length_set]; exact h.len, fun j q hq => ?_, fun m hm' => ?_⟩
  · rcases hl e l hg with h1 | h1
    · have := h.led e l h1
      exact ⟨this.e1, this.id0, this.id1, this.prop, this.good.ext a.ext, this.maj⟩
    · exact h1
  · rcases hc e i c hg with h1 | h1
    · have := h.cand e i c h1
      refine ⟨this.id0, this.id1, this.prop, this.good.ext a.ext, fun l' hl' hi => ?_⟩
      cases hg2 : G.led e with
      | none =>
        obtain ⟨g1, ⟨c', g2, g3⟩, _⟩ := a.quo e l' hg2 hl'
        have hik : i = (k : Int) := by omega
        subst hik
        rw [h1] at g2; cases g2
        exact g3
      | some l =>
        obtain ⟨l2, t, g1, g2, g3, g4, _⟩ := a.ext.led _ _ hg2
        rw [hl'] at g1; cases g1
        exact (this.led l hg2 (by omega)).trans (by rw [g4]; exact List.prefix_append _ _)
    · exact h1
  · simp only [stepF, List.getElem?_set] at hq
    split at hq
    · next hjk =>
      split at hq
      · simp only [Option.some.injEq] at hq
        subst hq
        exact ⟨by rw [hid]; omega, hr⟩
      · cases hq
    · next hjk =>
      obtain ⟨h1, h2⟩ := h.rep j q hq
      exact ⟨h1, h2.other a h.eps (by rw [h1]; omega)⟩
  · rcases List.mem_append.1 hm' with h1 | h1
    · exact (h.lets m h1).ext a.ext (fun m hm => List.mem_append_left _ hm)
    · exact hm m h1

/-- letters that say no yes -/
def Mute (ns : List Let) : Prop := ∀ m ∈ ns, m.yes = true → m.kind ≠ 2 ∧ m.kind ≠ 4
theorem Vote.mute {j e i : Int} (h : Vote G (ls ++ ns) j e i) (hm : Mute ns) : Vote G ls j e i := by
  rcases h with ⟨m, hm', r⟩ | h
  · rcases List.mem_append.1 hm' with h | h
    · exact .inl ⟨m, h, r⟩
    · exact absurd r.1 (hm m h r.2.1).1
  · exact .inr h
theorem Ack.mute {j e : Int} {q : Nat} (h : Ack G (ls ++ ns) j e q) (hm : Mute ns) : Ack G ls j e q := by
  rcases h with ⟨m, hm', r⟩ | h
  · rcases List.mem_append.1 hm' with h | h
    · exact .inl ⟨m, h, r⟩
    · exact absurd r.1 (hm m h r.2.1).2
  · exact .inr h
/-- a step that neither votes nor acknowledges, and leaves the log -/
theorem RI.calm {r r' : Rep} (h : RI n G ls r) (hid : r'.id = r.id) (hcnt : r'.count = r.count) (hE : r.epoch ≤ r'.epoch) (hv : r'.epoch = r.epoch → r'.voted = r.voted) (hlog : r'.log = r.log) (hns : Mute ns)
    (c0 : 0 ≤ r'.conf) (c1 : r'.conf ≤ r.log.length) (hconf : Conf n G ls r.log r'.conf.toNat r'.epoch)
    (hlead : r'.role = 3 → r'.role = r.role ∧ r'.epoch = r.epoch) (hcand : r'.role = 2 → r'.role = r.role ∧ r'.epoch = r.epoch ∧ r'.votes.length = n ∧ ∀ k : Nat, r'.votes[k]? = some true → Vote G ls k r.epoch r.id)
    (hmat : r'.role = 3 → r'.mat.length = n ∧ ∀ (k : Nat) (x : Int), r'.mat[k]? = some x → 0 ≤ x ∧ x ≤ r.log.length ∧ (x = 0 ∨ Ack G ls k r.epoch x.toNat)) : RI n G (ls ++ ns) r' := by
  have hs : ∀ m ∈ ls, m ∈ ls ++ ns := fun m hm => List.mem_append_left _ hm
  have x := Ext.refl G
  have see : ∀ j e c, Sees n G ls j e c → Sees n G (ls ++ ns) j e c := fun j e c hh e0 q l0 ha he hl hc => hh e0 q l0 (ha.mute hns) he hl hc
  refine ⟨by rw [hid]; exact h.id0, by rw [hid]; exact h.id1, by rw [hcnt]; exact h.cnt, by have := h.ep0; omega, by rw [hlog]; exact properF_hi h.prop hE, c0, by rw [hlog]; exact c1, by rw [hlog]; exact h.good, fun h3 => ?_, fun h2 => ?_, fun h3 => ?_, fun e i hh => ?_, fun e i k h1 h2 => ?_, fun e q ha => ?_, fun e l hl hj => ?_, ?_⟩
  · obtain ⟨e1, e2⟩ := hlead h3
    rw [e2, hid, hlog]
    exact h.lead (e1 ▸ h3)
  · obtain ⟨e1, e2, e3, e4⟩ := hcand h2
    obtain ⟨g1, g2, g3, _⟩ := h.cand (e1 ▸ h2)
    rw [e2, hid, hlog]
    exact ⟨g1, g2, g3, e3, fun k hk => (e4 k hk).ext x hs⟩
  · obtain ⟨e1, e2⟩ := hlead h3
    obtain ⟨g1, g2⟩ := hmat h3
    rw [e2, hlog]
    refine ⟨g1, fun k y hy => ?_⟩
    obtain ⟨f1, f2, f3⟩ := g2 k y hy
    exact ⟨f1, f2, f3.imp _root_.id fun g => g.ext x hs⟩
  · rw [hid] at hh ⊢
    obtain ⟨h1, h2, h3, c, h4, h5⟩ := h.vote e i (hh.mute hns)
    exact ⟨by omega, h2, fun he => by rw [hv (by omega)]; exact h3 (by omega), c, h4, fun hn => see _ _ _ (h5 hn)⟩
  · rw [hid] at h1 h2
    exact h.uniq e i k (h1.mute hns) (h2.mute hns)
  · rw [hid] at ha
    obtain ⟨h1, l, h2, h3, h4⟩ := h.acks e q (ha.mute hns)
    rw [hlog]
    exact ⟨by omega, l, h2, h3, h4.imp _root_.id fun ⟨d, d1, d2, d3⟩ => ⟨d, d1, by omega, d3⟩⟩
  · rw [hid] at hj ⊢
    obtain ⟨h1, h2, h3⟩ := h.quo e l hl hj
    exact ⟨by omega, h2.ext x hs, see _ _ _ h3⟩
  · rw [hlog]
    exact hconf.ext x hs (Int.le_refl _) (List.prefix_refl _)
theorem Inv.calm {s : WS} (h : Inv n G s) {k : Nat} {r r' : Rep} (hk : s.reps[k]? = some r) (hid : r'.id = k) (hr : RI n G (s.lets ++ ns) r') (hsrc : ∀ m ∈ ns, m.src = k) (hm : ∀ m ∈ ns, MI n G (s.lets ++ ns) m) : Inv n G (stepF s k (r', ns)) :=
  h.move hk (.refl hsrc) hid hr hm (fun _ _ h => .inl h) (fun _ _ _ h => .inl h)
end
end Go.Proofs.YtgohploghbimlaaDoor

/- Plain laws: what an append leaves; what a majority has; who may be voted for. -/
namespace Go.Proofs.YtgohploghbimlaaDoor

theorem sameF_halt : ∀ (l i : List Item) (x y : Item), l[sameF l i]? = some x → i[sameF l i]? = some y → x.ep ≠ y.ep
  | [], i, x, y, h, _ => by simp [sameF] at h
  | a :: l, [], x, y, _, h => by simp [sameF] at h
  | a :: l, b :: i, x, y, h1, h2 => by
    unfold sameF at h1 h2
    split at h1
    · next he =>
      rw [if_pos he] at h2
      simp only [List.getElem?_cons_succ] at h1 h2
      exact sameF_halt l i x y h1 h2
    · next he =>
      rw [if_neg he] at h2
      simp only [List.getElem?_cons_zero, Option.some.injEq] at h1 h2
      subst h1 h2
      exact he
/-- the log behind an append, beside the leader's -/
theorem append_log {G : Gh} {P L items : List Item} {p : Nat} (hP : GoodP G P) (hL : GoodP G L) (hp : p ≤ P.length) (heq : P.take p = L.take p) (hit : L.take p ++ items <+: L) (hpL : p ≤ L.length) {s : Nat} (hs : s = sameF (P.drop p) items) :
    let P' := if s < items.length then P.take (p + s) ++ items.drop s else P
    p + items.length ≤ P'.length ∧ P'.take (p + items.length) = L.take (p + items.length) ∧ (P' = P ∨ P' = L.take (p + items.length)) ∧ ∀ c, c ≤ P.length → P.take c <+: L → P.take c <+: P' := by
  have hlenit : p + items.length ≤ L.length := by
    have := hit.length_le
    rw [List.length_append, List.length_take] at this
    omega
  obtain ⟨rest, hrest⟩ := hit
  have hLi : L = L.take p ++ (items ++ rest) := by rw [← List.append_assoc]; exact hrest.symm
  have hdrop : L.drop p = items ++ rest := by
    have := congrArg (List.drop p) hLi
    rw [List.drop_append_of_le_length (by rw [List.length_take]; omega)] at this
    rw [this, List.drop_of_length_le (by rw [List.length_take]; omega)]
    rfl
  have hsl := sameF_le (P.drop p) items
  rw [← hs, List.length_drop] at hsl
  have hLat : ∀ j, j < items.length → L[p + j]? = items[j]? := fun j hj => by
    rw [← List.getElem?_drop, hdrop, List.getElem?_append_left hj]
  have hsame : P.take (p + s) = L.take (p + s) := by
    refine hP.agree hL (by omega) (by omega) ?_
    by_cases h0 : s = 0
    · subst h0; rw [Nat.add_zero, heq]
    · obtain ⟨s1, hs1⟩ : ∃ s1, s = s1 + 1 := ⟨s - 1, by omega⟩
      obtain ⟨x, _, hx, _, ex⟩ := take_snoc (l := P) (k := p + s1) (by omega)
      obtain ⟨y, _, hy, _, ey⟩ := take_snoc (l := L) (k := p + s1) (by omega)
      rw [hs1, ← Nat.add_assoc, ex, ey]
      have he := sameF_eps (P.drop p) items
      rw [← hs] at he
      have h1 := congrArg (fun l => l[s1]?) he
      simp only [List.getElem?_map, List.getElem?_take, hs1, Nat.lt_succ_self, if_true, List.getElem?_drop] at h1
      rw [hx, ← hLat s1 (by omega), hy] at h1
      simpa using h1
  have htk : L.take (p + items.length) = L.take p ++ items := by
    rw [List.take_add, hdrop, List.take_append_of_le_length (Nat.le_refl _), List.take_length]
  simp only
  split
  · next hlt =>
    have hP' : P.take (p + s) ++ items.drop s = L.take (p + items.length) := by
      rw [hsame, htk, List.take_add, hdrop, List.take_append_of_le_length (by omega), List.append_assoc, List.take_append_drop]
    rw [hP']
    refine ⟨by rw [List.length_take]; omega, by rw [List.take_take]; congr 1; omega, .inr rfl, fun c hc hpre => ?_⟩
    refine prefix_of_len hpre (List.take_prefix _ _) ?_
    rw [List.length_take, List.length_take]
    apply Classical.byContradiction
    intro hno
    have hc1 : p + s < c := by omega
    obtain ⟨x, _, hx, _, _⟩ := take_snoc (l := P) (k := p + s) (by omega)
    obtain ⟨y, _, hy, _, _⟩ := take_snoc (l := items) (k := s) hlt
    have hd : x.ep ≠ y.ep := sameF_halt (P.drop p) items x y (by rw [← hs, List.getElem?_drop]; exact hx) (by rw [← hs]; exact hy)
    obtain ⟨u, hu⟩ := hpre
    have h2 : L[p + s]? = some x := by
      rw [← hu, List.getElem?_append_left (by rw [List.length_take]; omega), List.getElem?_take, if_pos hc1]
      exact hx
    rw [hLat s hlt, hy] at h2
    cases h2
    exact hd rfl
  · next hlt =>
    have : s = items.length := by omega
    subst this
    exact ⟨by omega, hsame, .inl rfl, fun c hc _ => List.take_prefix _ _⟩

theorem Ack.less {G : Gh} {ls : List Let} {j e : Int} {q p : Nat} (h : Ack G ls j e q) (hp : p ≤ q) : Ack G ls j e p := by
  rcases h with ⟨m, h1, h2, h3, h4, h5, h6⟩ | ⟨l, h1, h2, h3⟩
  · exact .inl ⟨m, h1, h2, h3, h4, h5, by omega⟩
  · exact .inr ⟨l, h1, h2, by omega⟩
/-- those of a list with a property, by number -/
theorem count_range (l : List Int) (x : Int) : ((List.range l.length).filter fun k => decide (x ≤ l.getD k 0)).length = l.countP (fun y => decide (x ≤ y)) := by
  rw [← List.countP_eq_length_filter]
  have e : l = (List.range l.length).map fun k => l.getD k 0 := by
    apply List.ext_getElem?
    intro i
    rw [List.getElem?_map]
    by_cases h : i < l.length
    · rw [List.getElem?_range h, List.getElem?_eq_getElem h]
      simp [List.getD_eq_getElem?_getD, List.getElem?_eq_getElem h]
    · rw [List.getElem?_eq_none (by omega), List.getElem?_eq_none (by simp; omega)]; rfl
  conv => rhs; rw [e]
  rw [List.countP_map]
  rfl
theorem nodup_nums (n : Nat) (f : Nat → Bool) : (((List.range n).filter f).map fun k => ((k : Nat) : Int)).Nodup := by
  refine List.Pairwise.map _ (fun a b h => ?_) (List.Pairwise.filter _ List.nodup_range)
  intro hh
  exact h (by omega)
/-- the number in the middle: a majority has at least as much -/
theorem median_maj (l : List Int) (h0 : 0 < l.length) : ∃ Q, Maj l.length Q ∧ ∀ j ∈ Q, ∃ (k : Nat) (y : Int), j = k ∧ l[k]? = some y ∧ median l ((l.length - 1) / 2) ≤ y := by
  obtain ⟨x, hx⟩ : ∃ x, median l ((l.length - 1) / 2) = x := ⟨_, rfl⟩
  rw [hx]
  have hcount : l.length < 2 * l.countP (fun y => decide (x ≤ y)) := by
    have hp := List.mergeSort_perm l (fun a b => decide (a ≤ b))
    rw [← hp.countP_eq]
    unfold median at hx
    have hsort : (l.mergeSort fun a b => decide (a ≤ b)).Pairwise (fun a b => (decide (a ≤ b)) = true) := List.pairwise_mergeSort (le := fun a b => decide (a ≤ b)) (fun a b c h1 h2 => by simp at *; omega) (fun a b => by simp; omega) l
    have hlen := hp.length_eq
    generalize (l.mergeSort fun a b => decide (a ≤ b)) = S at hx hsort hlen
    generalize hi : (l.length - 1) / 2 = i at hx
    have hiS : i < S.length := by omega
    have hsp : S = S.take i ++ S.drop i := (List.take_append_drop i S).symm
    rw [hsp, List.countP_append]
    have hall : (S.drop i).countP (fun y => decide (x ≤ y)) = (S.drop i).length := by
      rw [List.countP_eq_length]
      intro y hy
      rw [List.mem_iff_getElem?] at hy
      obtain ⟨j, hj⟩ := hy
      rw [List.getElem?_drop] at hj
      have hx' : S[i] = x := by rw [← hx, List.getD_eq_getElem?_getD, List.getElem?_eq_getElem hiS]; rfl
      by_cases h : j = 0
      · subst h
        rw [Nat.add_zero, List.getElem?_eq_getElem hiS] at hj
        simp only [Option.some.injEq] at hj
        simp; omega
      · obtain ⟨hj1, hj2⟩ := List.getElem?_eq_some_iff.1 hj
        have := (List.pairwise_iff_getElem.1 hsort) i (i + j) hiS hj1 (by omega)
        rw [hj2, hx'] at this
        exact this
    rw [hall, List.length_drop]
    omega
  refine ⟨((List.range l.length).filter fun k => decide (x ≤ l.getD k 0)).map fun k => ((k : Nat) : Int), ⟨nodup_nums _ _, fun j hj => ?_, ?_⟩, fun j hj => ?_⟩
  · obtain ⟨k, hk, rfl⟩ := List.mem_map.1 hj
    have := List.mem_range.1 (List.mem_filter.1 hk).1
    omega
  · rw [List.length_map, count_range]
    exact hcount
  · obtain ⟨k, hk, rfl⟩ := List.mem_map.1 hj
    obtain ⟨h1, h2⟩ := List.mem_filter.1 hk
    have h1 := List.mem_range.1 h1
    refine ⟨k, l[k], rfl, List.getElem?_eq_getElem h1, ?_⟩
    simpa [List.getD_eq_getElem?_getD, List.getElem?_eq_getElem h1] using h2
/-- those that voted -/
theorem votes_maj {n : Nat} {v : List Bool} (hn : v.length = n) (h : 2 * countT v > n) : ∃ Q, Maj n Q ∧ ∀ j ∈ Q, ∃ k : Nat, j = k ∧ v[k]? = some true := by
  have hc : n < 2 * v.countP (· == true) := by
    unfold countT at h
    omega
  have e : v.countP (· == true) = ((List.range v.length).filter fun k => v.getD k false).length := by
    rw [← List.countP_eq_length_filter]
    have e : v = (List.range v.length).map fun k => v.getD k false := by
      apply List.ext_getElem?
      intro i
      rw [List.getElem?_map]
      by_cases h : i < v.length
      · rw [List.getElem?_range h, List.getElem?_eq_getElem h]
        simp [List.getD_eq_getElem?_getD, List.getElem?_eq_getElem h]
      · rw [List.getElem?_eq_none (by omega), List.getElem?_eq_none (by simp; omega)]; rfl
    conv => lhs; rw [e]
    rw [List.countP_map]
    congr 1
    funext k
    simp
  refine ⟨((List.range v.length).filter fun k => v.getD k false).map fun k => ((k : Nat) : Int), ⟨nodup_nums _ _, fun j hj => ?_, ?_⟩, fun j hj => ?_⟩
  · obtain ⟨k, hk, rfl⟩ := List.mem_map.1 hj
    have := List.mem_range.1 (List.mem_filter.1 hk).1
    omega
  · rw [List.length_map, ← e]
    exact hc
  · obtain ⟨k, hk, rfl⟩ := List.mem_map.1 hj
    obtain ⟨h1, h2⟩ := List.mem_filter.1 hk
    have h1 := List.mem_range.1 h1
    refine ⟨k, rfl, ?_⟩
    rw [List.getD_eq_getElem?_getD, List.getElem?_eq_getElem h1] at h2
    rw [List.getElem?_eq_getElem h1]
    simpa using h2
theorem take_all (l : List Item) : lastF (l.take l.length) = lastF l := by rw [List.take_length]
/-- a candidate whose log is not behind has seen what the voter acknowledged -/
theorem sees_ask {n : Nat} {G : Gh} {ls : List Let} {r : Rep} (h : RI n G ls r) (hn : n ≠ 1) (hb : ∀ e l, G.led e = some l → 1 ≤ e ∧ properF l.log 1 e = true) (hnone : G.led r.epoch = none) {c : List Item} (hc : GoodP G c) (hcp : properF c 1 (r.epoch - 1) = true)
    (hup : lastF c > lastF r.log ∨ (lastF c = lastF r.log ∧ r.log.length ≤ c.length)) : Sees n G ls r.id r.epoch c := by
  intro e0 q l0 ha he hl hcur
  obtain ⟨_, l, h1, h2, h3⟩ := h.acks e0 q ha
  rw [hl] at h1; cases h1
  obtain ⟨he1, hprop⟩ := hb e0 l0 hl
  have hcur : lastF (l0.log.take q) = e0 := hcur.resolve_right hn
  have hq : 0 < q := by
    apply Nat.pos_of_ne_zero
    intro h0
    subst h0
    rw [List.take_zero, lastF_nil] at hcur
    omega
  rcases h3 with hp | ⟨d, d1, d2, d3⟩
  · have hlq : (l0.log.take q).length = q := by rw [List.length_take]; omega
    have hqP : q ≤ r.log.length := by have := hp.length_le; omega
    have hPq : r.log.take q = l0.log.take q := by
      have := prefix_eq_take hp
      rw [hlq] at this
      exact this.symm
    have hg : e0 ≤ lastF r.log := by
      have := lastF_mono h.prop hq hqP (Nat.le_refl _)
      rw [hPq, hcur, take_all] at this
      exact this
    have hc0 : 0 < c.length := by
      apply Nat.pos_of_ne_zero
      intro h0
      have : c = [] := List.eq_nil_of_length_eq_zero h0
      subst this
      rw [lastF_nil] at hup
      simp at hup
      omega
    obtain ⟨lf, hlf, hcl⟩ := hc c.length hc0 (Nat.le_refl _)
    rw [List.take_length] at hlf hcl
    rcases hup with hup | ⟨hu1, hu2⟩
    · have hcb := (lastF_ge hcp hc0 (Nat.le_refl _)).2
      rw [take_all] at hcb
      by_cases hpre : l0.log.take q <+: lf.log
      · left
        refine prefix_of_len hpre hcl ?_
        rw [hlq]
        apply Classical.byContradiction
        intro hno
        have hpc : c <+: l0.log.take q := prefix_of_len hcl hpre (by omega)
        have e1 := prefix_eq_take hpc
        rw [List.take_take, Nat.min_eq_left (by omega)] at e1
        have := lastF_mono hprop hc0 (show c.length ≤ q by omega) h2
        rw [← e1, hcur] at this
        omega
      · exact .inr ⟨lastF c, by omega, by omega, l0, lf, hl, h2, hlf, hpre⟩
    · obtain ⟨lp, hlp, hpl⟩ := h.good r.log.length (by omega) (Nat.le_refl _)
      rw [List.take_length] at hlp hpl
      rw [hu1, hlp] at hlf
      cases hlf
      exact .inl (hp.trans (prefix_of_len hpl hcl hu2))
  · right
    refine ⟨d, d1, ?_, d3⟩
    obtain ⟨_, k, _, _, hk, _⟩ := d3
    by_cases hd : d = r.epoch
    · rw [hd, hnone] at hk; cases hk
    · omega
end Go.Proofs.YtgohploghbimlaaDoor

/- Plain laws: the steps of a replica, one by one, keep what is said. -/
namespace Go.Proofs.YtgohploghbimlaaDoor
section
variable {n : Nat} {G : Gh} {s : WS} {k : Nat} {r : Rep}

theorem stepF_nil (s : WS) (k : Nat) (r : Rep) : stepF s k (r, []) = ⟨s.reps.set k r, s.lets⟩ := by simp [stepF]
theorem stepF_at {p : Rep × List Let} (hk : s.reps[k]? = some r) : (stepF s k p).reps[k]? = some p.1 := by
  have := (List.getElem?_eq_some_iff.1 hk).1
  simp [stepF, List.getElem?_set, this]
theorem stepF_two (p q : Rep × List Let) (hp : p.2 = []) : stepF (stepF s k p) k q = stepF s k q := by
  simp [stepF, hp]
theorem Mute.nil : Mute [] := by intro m hm; cases hm
theorem Conf.nil {ls : List Let} {P : List Item} {E : Int} : Conf n G ls P 0 E := .inl rfl

/-- learns of a later epoch -/
theorem Inv.bump (h : Inv n G s) (hk : s.reps[k]? = some r) {e : Int} (he : r.epoch < e) : Inv n G (stepF s k ({ followF r with epoch := e, voted := -1 }, [])) := by
  obtain ⟨hid, hr⟩ := h.rep k r hk
  refine h.calm hk (by exact hid) ?_ (by simp) (by simp)
  refine hr.calm rfl rfl (by dsimp only; omega) (fun h => by dsimp only at h; omega) rfl Mute.nil hr.cf0 hr.cf1 (hr.conf.ext (.refl G) (fun _ h => h) (by dsimp only; omega) (List.prefix_refl _)) (fun h => by cases h) (fun h => by cases h) (fun h => by cases h)
theorem Inv.follow (h : Inv n G s) (hk : s.reps[k]? = some r) : Inv n G (stepF s k (followF r, [])) := by
  obtain ⟨hid, hr⟩ := h.rep k r hk
  refine h.calm hk (by exact hid) ?_ (by simp) (by simp)
  exact hr.calm rfl rfl (Int.le_refl _) (fun _ => rfl) rfl Mute.nil hr.cf0 hr.cf1 hr.conf (fun h => by cases h) (fun h => by cases h) (fun h => by cases h)
theorem Inv.restart (h : Inv n G s) (hk : s.reps[k]? = some r) : Inv n G (stepF s k (restartF r, [])) := by
  obtain ⟨hid, hr⟩ := h.rep k r hk
  refine h.calm hk (by exact hid) ?_ (by simp) (by simp)
  have := hr.cf0
  have := hr.cf1
  exact hr.calm rfl rfl (Int.le_refl _) (fun _ => rfl) rfl Mute.nil (Int.le_refl _) (by show (0 : Int) ≤ _; omega) .nil (fun h => by cases h) (fun h => by cases h) (fun h => by cases h)
/-- letters that say no yes, and of which what must be said holds -/
theorem Inv.send (h : Inv n G s) (hk : s.reps[k]? = some r) {ns : List Let} (hm : Mute ns) (hs : ∀ m ∈ ns, m.src = k) (hi : ∀ m ∈ ns, RI n G (s.lets ++ ns) r → MI n G (s.lets ++ ns) m) : Inv n G (stepF s k (r, ns)) := by
  obtain ⟨hid, hr⟩ := h.rep k r hk
  have hr' : RI n G (s.lets ++ ns) r := hr.calm rfl rfl (Int.le_refl _) (fun _ => rfl) rfl hm hr.cf0 hr.cf1 hr.conf (fun h => ⟨rfl, rfl⟩) (fun h => ⟨rfl, rfl, (hr.cand h).2.2.2⟩) hr.mat
  exact h.calm hk hid hr' hs (fun m hm => hi m hm hr')
theorem Inv.idle (h : Inv n G s) (hk : s.reps[k]? = some r) : Inv n G (stepF s k (r, [])) := h.send hk .nil (by simp) (by simp)
/-- what a leader sends -/
theorem MI.log {ls : List Let} (hr : RI n G ls r) (h3 : r.role = 3) {j : Int} (hj0 : 0 ≤ j) : MI n G ls (logLet r j) := by
  refine ⟨(fun h => by cases h), fun _ => ?_⟩
  obtain ⟨_, l, h1, h2, h3'⟩ := hr.lead h3
  obtain ⟨hm1, hm2⟩ := hr.mat h3
  have hp : 0 ≤ r.mat.getD j.toNat 0 ∧ r.mat.getD j.toNat 0 ≤ r.log.length := by
    rw [List.getD_eq_getElem?_getD]
    cases hg : r.mat[j.toNat]? with
    | none => simp
    | some x => have := hm2 _ _ hg; simp; omega
  have c0 := hr.cf0
  have c1 := hr.cf1
  refine ⟨l, h1, hp.1, by rw [h3']; exact hp.2, ?_, by rw [h3']; rfl, hr.cf0, by rw [h3']; exact hr.cf1, by rw [h3']; exact hr.conf⟩
  rw [h3']
  unfold logLet
  dsimp only
  generalize r.mat.getD j.toNat 0 = p at hp
  have e : r.log.take p.toNat = (r.log.take (min r.log.length (p.toNat + 50))).take p.toNat := by
    rw [List.take_take]; congr 1; omega
  rw [e, List.take_append_drop]
  exact List.take_prefix _ _
theorem logs_mute (r : Rep) (ks : List Int) : Mute (ks.map (logLet r)) := by
  intro m hm hy
  obtain ⟨j, _, rfl⟩ := List.mem_map.1 hm
  cases hy
theorem Inv.sendLogs (h : Inv n G s) (hk : s.reps[k]? = some r) (h3 : r.role = 3) {ks : List Int} (hks : ∀ j ∈ ks, 0 ≤ j) : Inv n G (stepF s k (r, ks.map (logLet r))) := by
  have hid := (h.rep k r hk).1
  refine h.send hk (logs_mute _ _) (fun m hm => ?_) (fun m hm hr => ?_)
  · obtain ⟨j, _, rfl⟩ := List.mem_map.1 hm
    exact hid
  · obtain ⟨j, hj, rfl⟩ := List.mem_map.1 hm
    exact MI.log hr h3 (hks j hj)
/-- confirms what a majority has -/
theorem Inv.settle (h : Inv n G s) (hk : s.reps[k]? = some r) (h3 : r.role = 3) : Inv n G (stepF s k (settleF r, [])) := by
  obtain ⟨hid, hr⟩ := h.rep k r hk
  obtain ⟨he, l, h1, h2, h3'⟩ := hr.lead h3
  obtain ⟨hm1, hm2⟩ := hr.mat h3
  have hc0 := hr.cf0
  have calm : ∀ c : Int, 0 ≤ c → c ≤ r.log.length → Conf n G s.lets r.log c.toNat r.epoch → Inv n G (stepF s k ({ r with conf := c }, [])) := by
    intro c c0 c1 hc
    refine h.calm hk (by exact hid) ?_ (by simp) (by simp)
    exact hr.calm rfl rfl (Int.le_refl _) (fun _ => rfl) rfl Mute.nil c0 c1 hc (fun h => ⟨rfl, rfl⟩) (fun h => ⟨rfl, rfl, (hr.cand h).2.2.2⟩) hr.mat
  have hcnt := hr.cnt
  unfold settleF
  split
  · next hn =>
    have hn1 : n = 1 := by omega
    refine calm _ (by omega) (Int.le_refl _) (.inr ⟨r.epoch, r.log.length, l, ⟨l, h1, by rw [h3']; exact Nat.le_refl _, .inr hn1, [r.id], ⟨by simp, fun j hj => ?_, by simp; omega⟩, fun j hj => ?_⟩, Int.le_refl _, h1, by omega, by omega, by rw [h3']; exact List.take_prefix _ _⟩)
    · simp at hj; subst hj; exact ⟨hr.id0, hr.id1⟩
    · simp at hj; subst hj; exact .inr ⟨l, h1, h2, by rw [h3']; exact Nat.le_refl _⟩
  · next hn =>
    simp only
    split
    · next hx =>
      have hid1 := hr.id0
      have hid2 := hr.id1
      have e2 : ((r.count - 1) / 2).toNat = (r.mat.length - 1) / 2 := by rw [hm1, hcnt]; omega
      rw [e2] at hx ⊢
      obtain ⟨Q, hQ, hQ2⟩ := median_maj r.mat (by omega)
      obtain ⟨hx1, hx2⟩ := hx
      generalize median r.mat ((r.mat.length - 1) / 2) = x at *
      have hxl : x ≤ r.log.length := by
        cases hq : Q with
        | nil => have := hQ.2.2; rw [hq] at this; simp at this
        | cons j Q' =>
          obtain ⟨i, y, _, hy, hle⟩ := hQ2 j (by rw [hq]; simp)
          have := (hm2 i y hy).2.1
          omega
      rw [hm1] at hQ
      refine calm x (by omega) hxl (.inr ⟨r.epoch, x.toNat, l, ⟨l, h1, by rw [h3']; omega, .inl (by rw [h3']; exact hx2), Q, hQ, fun j hj => ?_⟩, Int.le_refl _, h1, Nat.le_refl _, by omega, by rw [h3']; exact List.take_prefix _ _⟩)
      obtain ⟨i, y, rfl, hy, hle⟩ := hQ2 j hj
      obtain ⟨_, _, g⟩ := hm2 i y hy
      rcases g with g | g
      · omega
      · exact g.less (by omega)
    · exact calm _ hr.cf0 hr.cf1 hr.conf
/-- a vote came in -/
theorem Inv.count (h : Inv n G s) (hk : s.reps[k]? = some r) (h2 : r.role = 2) {m : Let} (hm : m ∈ s.lets) (m1 : m.kind = 2) (m2 : m.yes = true) (m3 : m.dst = r.id) (m4 : m.ep = r.epoch) (m5 : 0 ≤ m.src) : Inv n G (stepF s k ({ r with votes := r.votes.set m.src.toNat true }, [])) := by
  obtain ⟨hid, hr⟩ := h.rep k r hk
  refine h.calm hk (by exact hid) ?_ (by simp) (by simp)
  obtain ⟨_, _, _, g1, g2⟩ := hr.cand h2
  refine hr.calm rfl rfl (Int.le_refl _) (fun _ => rfl) rfl Mute.nil hr.cf0 hr.cf1 hr.conf (fun h => ⟨rfl, rfl⟩) (fun h => ⟨rfl, rfl, by simpa using g1, fun i hi => ?_⟩) hr.mat
  simp only [List.getElem?_set] at hi
  split at hi
  · next hii => exact .inl ⟨m, hm, m1, m2, by omega, m3, m4⟩
  · exact g2 i hi
/-- an acknowledgement came in -/
theorem Inv.matched (h : Inv n G s) (hk : s.reps[k]? = some r) (h3 : r.role = 3) {m : Let} (hm : m ∈ s.lets) (m1 : m.kind = 4) (m2 : m.yes = true) (m4 : m.ep = r.epoch) (m5 : 0 ≤ m.src) (m6 : m.src < r.count) (m7 : 0 ≤ m.pos) :
    Inv n G (stepF s k ({ r with mat := r.mat.set m.src.toNat (max (r.mat.getD m.src.toNat 0) (min m.pos r.log.length)) }, [])) := by
  obtain ⟨hid, hr⟩ := h.rep k r hk
  refine h.calm hk (by exact hid) ?_ (by simp) (by simp)
  obtain ⟨g1, g2⟩ := hr.mat h3
  have hcnt := hr.cnt
  refine hr.calm rfl rfl (Int.le_refl _) (fun _ => rfl) rfl Mute.nil hr.cf0 hr.cf1 hr.conf (fun h => ⟨rfl, rfl⟩) (fun h => ⟨rfl, rfl, (hr.cand h).2.2.2⟩) (fun _ => ⟨by simpa using g1, fun i y hy => ?_⟩)
  simp only [List.getElem?_set] at hy
  split at hy
  · next hii =>
    split at hy
    · next hlt =>
      simp only [Option.some.injEq] at hy
      obtain ⟨x0, hx0⟩ : ∃ x0, r.mat[m.src.toNat]? = some x0 := ⟨_, List.getElem?_eq_getElem hlt⟩
      obtain ⟨f1, f2, f3⟩ := g2 _ x0 hx0
      rw [List.getD_eq_getElem?_getD, hx0] at hy
      simp only [Option.getD_some] at hy
      subst hii
      refine ⟨by omega, by omega, ?_⟩
      by_cases hc : min m.pos (r.log.length : Int) ≤ x0
      · have : y = x0 := by omega
        rw [this]; exact f3
      · have : y = min m.pos (r.log.length : Int) := by omega
        exact .inr (.inl ⟨m, hm, m1, m2, by omega, m4, by omega⟩)
    · cases hy
  · exact g2 i y hy
end
end Go.Proofs.YtgohploghbimlaaDoor

/- Plain laws: votes, appends, candidates, leaders. -/
namespace Go.Proofs.YtgohploghbimlaaDoor
section
variable {n : Nat} {G : Gh} {s : WS} {k : Nat} {r : Rep}

theorem Inv.led1 (h : Inv n G s) : ∀ e l, G.led e = some l → 1 ≤ e ∧ properF l.log 1 e = true := fun e l hl => ⟨(h.led e l hl).e1, (h.led e l hl).prop⟩
theorem Ack.noack {ls ns : List Let} {j e : Int} {q : Nat} (h : Ack G (ls ++ ns) j e q) (hm : ∀ m ∈ ns, m.kind ≠ 4) : Ack G ls j e q := by
  rcases h with ⟨m, hm', r⟩ | h
  · rcases List.mem_append.1 hm' with h | h
    · exact .inl ⟨m, h, r⟩
    · exact absurd r.1 (hm m h)
  · exact .inr h
theorem Vote.novote {ls ns : List Let} {j e i : Int} (h : Vote G (ls ++ ns) j e i) (hm : ∀ m ∈ ns, m.kind ≠ 2) : Vote G ls j e i := by
  rcases h with ⟨m, hm', r⟩ | h
  · rcases List.mem_append.1 hm' with h | h
    · exact .inl ⟨m, h, r⟩
    · exact absurd r.1 (hm m h)
  · exact .inr h

/-- answers one that asks for its vote -/
theorem Inv.ask (h : Inv n G s) (hk : s.reps[k]? = some r) {m : Let} (hm : m ∈ s.lets) (m1 : m.kind = 1) (m2 : 0 ≤ m.src) (m3 : m.src < r.count) (m4 : m.src ≠ r.id) : Inv n G (stepF s k (askF r m)) := by
  obtain ⟨hid, hr⟩ := h.rep k r hk
  unfold askF
  by_cases hy : askYes r m = true
  · rw [hy, if_pos rfl]
    have hya := hy
    unfold askYes at hya
    simp only [decide_eq_true_eq] at hya
    obtain ⟨y1, y2, y3⟩ := hya
    obtain ⟨c, c1, c2, c3⟩ := (h.lets m hm).ask m1
    have hcok := h.cand _ _ _ c1
    have hn1 : n ≠ 1 := by
      have := hr.id0; have := hr.id1; have := hr.cnt
      omega
    obtain ⟨nl, hnl⟩ : ∃ nl : Let, nl = { kind := 2, src := r.id, dst := m.src, ep := r.epoch, pos := 0, aep := 0, items := [], conf := 0, yes := true } := ⟨_, rfl⟩
    rw [← hnl]
    have k1 : nl.kind = 2 := by rw [hnl]
    have k2 : nl.src = r.id := by rw [hnl]
    have k3 : nl.dst = m.src := by rw [hnl]
    have k4 : nl.ep = r.epoch := by rw [hnl]
    have hs : ∀ m ∈ s.lets, m ∈ s.lets ++ [nl] := fun m hm => List.mem_append_left _ hm
    have hnk : ∀ m ∈ [nl], m.kind ≠ 4 := by intro m hm; simp at hm; rw [hm, k1]; decide
    have x := Ext.refl G
    have see : ∀ j e c, Sees n G s.lets j e c → Sees n G (s.lets ++ [nl]) j e c := fun j e c hh e0 q l0 ha he hl hc => hh e0 q l0 (ha.noack hnk) he hl hc
    have hv : ∀ e i, Vote G (s.lets ++ [nl]) r.id e i → Vote G s.lets r.id e i ∨ (e = r.epoch ∧ i = m.src) := by
      intro e i hh
      rcases hh with ⟨m', hm', q⟩ | hh
      · rcases List.mem_append.1 hm' with h1 | h1
        · exact .inl (.inl ⟨m', h1, q⟩)
        · simp at h1
          subst h1
          exact .inr ⟨by omega, by omega⟩
      · exact .inl (.inr hh)
    have hold : ∀ i, Vote G s.lets r.id r.epoch i → i = m.src := by
      intro i hh
      obtain ⟨_, g2, g3, _⟩ := hr.vote _ _ hh
      have := g3 rfl
      omega
    refine h.calm hk (by exact hid) ?_ (by intro m hm; simp at hm; rw [hm, k2, hid]) ?_
    · refine ⟨hr.id0, hr.id1, hr.cnt, hr.ep0, hr.prop, hr.cf0, hr.cf1, hr.good, hr.lead, fun h2 => ?_, fun h3 => ?_, fun e i hh => ?_, fun e i j h1 h2 => ?_, fun e q ha => hr.acks e q (ha.noack hnk), fun e l hl hj => ?_, hr.conf.ext x hs (Int.le_refl _) (List.prefix_refl _)⟩
      · obtain ⟨f1, f2, f3, f4, f5⟩ := hr.cand h2
        exact ⟨f1, f2, f3, f4, fun i hi => (f5 i hi).ext x hs⟩
      · obtain ⟨f1, f2⟩ := hr.mat h3
        refine ⟨f1, fun i y hy => ?_⟩
        obtain ⟨g1, g2, g3⟩ := f2 i y hy
        exact ⟨g1, g2, g3.imp id fun g => g.ext x hs⟩
      · rcases hv e i hh with hh | ⟨rfl, rfl⟩
        · obtain ⟨g1, g2, g3, c', g4, g5⟩ := hr.vote e i hh
          refine ⟨g1, g2, fun he => ?_, c', g4, fun hn => see _ _ _ (g5 hn)⟩
          have he : e = r.epoch := he
          subst he
          exact (hold i hh).symm
        · refine ⟨Int.le_refl _, m2, fun _ => rfl, c, by rw [← y1]; exact c1, fun hn => see _ _ _ ?_⟩
          refine sees_ask hr hn1 h.led1 hn hcok.good (by rw [← y1]; exact hcok.prop) ?_
          rcases y3 with y3 | ⟨y3, y4⟩
          · exact .inl (by omega)
          · exact .inr ⟨by omega, by omega⟩
      · rcases hv e i h1 with h1 | ⟨rfl, rfl⟩
        · rcases hv e j h2 with h2 | ⟨rfl, rfl⟩
          · exact hr.uniq e i j h1 h2
          · exact hold i h1
        · rcases hv _ j h2 with h2 | ⟨_, rfl⟩
          · exact (hold j h2).symm
          · rfl
      · obtain ⟨f1, f2, f3⟩ := hr.quo e l hl hj
        exact ⟨f1, f2.ext x hs, see _ _ _ f3⟩
    · intro m hm
      simp at hm
      subst hm
      exact ⟨(fun h => by rw [k1] at h; cases h), (fun h => by rw [k1] at h; cases h)⟩
  · rw [if_neg hy]
    have hy : askYes r m = false := by simpa using hy
    rw [hy]
    refine h.send hk ?_ ?_ ?_
    · intro m hm hy; simp at hm; subst hm; cases hy
    · intro m hm; simp at hm; subst hm; exact hid
    · intro m hm _; simp at hm; subst hm; exact ⟨(fun h => by cases h), (fun h => by cases h)⟩

/-- takes over what a leader sends -/
theorem Inv.accept (h : Inv n G s) (hk : s.reps[k]? = some r) {m : Let} (hm : m ∈ s.lets) (m1 : m.kind = 3) (m2 : m.ep = r.epoch) (h1 : m.pos ≤ r.log.length) (h2 : lastF (r.log.take m.pos.toNat) = m.aep) :
    Inv n G (stepF s k ({ followF r with log := appendLog r m, conf := min (max r.conf (min m.conf (m.pos + m.items.length))) (appendLog r m).length },
       [{ kind := 4, src := r.id, dst := m.src, ep := r.epoch, pos := m.pos + m.items.length, aep := 0, items := [], conf := 0, yes := true }])) := by
  obtain ⟨hid, hr⟩ := h.rep k r hk
  obtain ⟨l, hl, p0, p1, hit, ha, f0, f1, fc⟩ := (h.lets m hm).app m1
  rw [m2] at hl fc
  have hlok := h.led _ _ hl
  have heq : r.log.take m.pos.toNat = l.log.take m.pos.toNat := hr.good.agree hlok.good (by omega) (by omega) (by rw [h2, ha])
  obtain ⟨a1, a2, a3, a4⟩ := append_log hr.good hlok.good (by omega) heq hit (by omega) rfl
  have hP' : appendLog r m = if sameF (r.log.drop m.pos.toNat) m.items < m.items.length then r.log.take (m.pos.toNat + sameF (r.log.drop m.pos.toNat) m.items) ++ m.items.drop (sameF (r.log.drop m.pos.toNat) m.items) else r.log := rfl
  rw [← hP'] at a1 a2 a3 a4
  clear hP'
  generalize appendLog r m = P' at *
  obtain ⟨en, hen⟩ : ∃ en, m.pos.toNat + m.items.length = en := ⟨_, rfl⟩
  have hen' : m.pos + m.items.length = (en : Int) := by omega
  rw [hen] at a1 a2 a3
  rw [hen']
  have henL : en ≤ l.log.length := by
    have := congrArg List.length a2
    rw [List.length_take, List.length_take] at this
    omega
  obtain ⟨nl, hnl⟩ : ∃ nl : Let, nl = { kind := 4, src := r.id, dst := m.src, ep := r.epoch, pos := (en : Int), aep := 0, items := [], conf := 0, yes := true } := ⟨_, rfl⟩
  rw [← hnl]
  have k1 : nl.kind = 4 := by rw [hnl]
  have k2 : nl.src = r.id := by rw [hnl]
  have k4 : nl.ep = r.epoch := by rw [hnl]
  have k5 : nl.pos = en := by rw [hnl]
  have hs : ∀ m ∈ s.lets, m ∈ s.lets ++ [nl] := fun m hm => List.mem_append_left _ hm
  have hnk : ∀ m ∈ [nl], m.kind ≠ 2 := by intro m hm; simp at hm; rw [hm, k1]; decide
  have x := Ext.refl G
  have hack : ∀ e q, Ack G (s.lets ++ [nl]) r.id e q → Ack G s.lets r.id e q ∨ (e = r.epoch ∧ q ≤ en) := by
    intro e q hh
    rcases hh with ⟨m', hm', g⟩ | hh
    · rcases List.mem_append.1 hm' with h1 | h1
      · exact .inl (.inl ⟨m', h1, g⟩)
      · simp at h1
        subst h1
        exact .inr ⟨by omega, by omega⟩
    · exact .inl (.inr hh)
  have see : ∀ e c, e ≤ r.epoch → Sees n G s.lets r.id e c → Sees n G (s.lets ++ [nl]) r.id e c := fun e c hle hh e0 q l0 ha he hl hc => by
    rcases hack e0 q ha with g | ⟨g, _⟩
    · exact hh e0 q l0 g he hl hc
    · omega
  have keep : ∀ c, c ≤ r.log.length → r.log.take c <+: l.log → P'.take c = r.log.take c := fun c hc hp => by
    have h1 := prefix_eq_take (a4 c hc hp)
    rw [List.length_take, Nat.min_eq_left hc] at h1
    exact h1.symm
  have hcF : Conf n G s.lets P' (min (max r.conf (min m.conf (en : Int))) P'.length).toNat r.epoch := by
    by_cases hle : min m.conf (en : Int) ≤ r.conf
    · have hc : Conf n G s.lets P' r.conf.toNat r.epoch := by
        rcases hr.conf with h0 | ⟨e, q, l0, g1, g2, g3, g4, g5, g6⟩
        · exact .inl h0
        · have hq : q ≤ l0.log.length := by
            obtain ⟨l1, g3', g7, _⟩ := g1
            rw [g3] at g3'; cases g3'
            exact g7
          have hpre : r.log.take r.conf.toNat <+: l.log := by
            have e1 : r.log.take r.conf.toNat <+: l0.log.take q := prefix_of_len g6 (List.take_prefix _ _) (by rw [List.length_take, List.length_take]; omega)
            by_cases he : e = r.epoch
            · subst he
              rw [hl] at g3; cases g3
              exact g6
            · exact e1.trans (h.complete g1 g3 _ _ _ rfl (by omega) hl)
          have e2 := keep _ g5 hpre
          have hlen : r.conf.toNat ≤ P'.length := by
            have := congrArg List.length e2
            rw [List.length_take, List.length_take] at this
            omega
          exact .inr ⟨e, q, l0, g1, g2, g3, g4, hlen, by rw [e2]; exact g6⟩
      exact hc.less (by omega)
    · have hc : Conf n G s.lets P' (min m.conf (en : Int)).toNat r.epoch := by
        rcases (fc.less (c' := (min m.conf (en : Int)).toNat) (by omega)) with h0 | ⟨e, q, l0, g1, g2, g3, g4, g5, g6⟩
        · exact .inl h0
        · refine .inr ⟨e, q, l0, g1, g2, g3, g4, by omega, ?_⟩
          have e1 : P'.take (min m.conf (en : Int)).toNat = l.log.take (min m.conf (en : Int)).toNat := by
            have e0 : (min m.conf (en : Int)).toNat = min (min m.conf (en : Int)).toNat en := by omega
            rw [e0, ← List.take_take, a2, List.take_take]
          rw [e1]
          exact g6
      exact hc.less (by omega)
  have hc0 := hr.cf0
  refine h.calm hk (by exact hid) ?_ (by intro m hm; simp at hm; rw [hm, k2, hid]) (by intro m hm; simp at hm; subst hm; exact ⟨(fun h => by rw [k1] at h; cases h), (fun h => by rw [k1] at h; cases h)⟩)
  refine ⟨hr.id0, hr.id1, hr.cnt, hr.ep0, ?_, by dsimp only; omega, by dsimp only; omega, ?_, (fun h => by cases h), (fun h => by cases h), (fun h => by cases h), fun e i hh => ?_, fun e i j h1 h2 => hr.uniq e i j (h1.novote hnk) (h2.novote hnk), fun e q hh => ?_, fun e l hl hj => ?_, hcF.ext x hs (Int.le_refl _) (List.prefix_refl _)⟩
  · show properF P' 1 r.epoch = true
    rcases a3 with rfl | rfl
    · exact hr.prop
    · exact properF_take hlok.prop _
  · show GoodP G P'
    rcases a3 with rfl | rfl
    · exact hr.good
    · exact hlok.good.pre (List.take_prefix _ _)
  · obtain ⟨g1, g2, g3, c', g4, g5⟩ := hr.vote e i (hh.novote hnk)
    exact ⟨g1, g2, g3, c', g4, fun hn => see _ _ g1 (g5 hn)⟩
  · rcases hack e q hh with hh | ⟨rfl, hq⟩
    · obtain ⟨g1, l0, g2, g3, g4⟩ := hr.acks e q hh
      refine ⟨g1, l0, g2, g3, ?_⟩
      rcases g4 with g4 | g4
      · have hqP : q ≤ r.log.length := by have := g4.length_le; rw [List.length_take] at this; omega
        have e1 : l0.log.take q = r.log.take q := by
          have := prefix_eq_take g4
          rw [List.length_take, Nat.min_eq_left g3] at this
          exact this
        by_cases hpre : l0.log.take q <+: l.log
        · left
          show _ <+: P'
          rw [e1]
          exact a4 q hqP (by rw [← e1]; exact hpre)
        · right
          by_cases he : e = r.epoch
          · exfalso
            subst he
            rw [hl] at g2; cases g2
            exact hpre (List.take_prefix _ _)
          · exact ⟨r.epoch, by omega, Int.le_refl _, l0, l, g2, g3, hl, hpre⟩
      · exact .inr g4
    · refine ⟨Int.le_refl _, l, hl, by omega, .inl ?_⟩
      show _ <+: P'
      have e1 : l.log.take q = P'.take q := by
        have e0 : q = min q en := by omega
        rw [e0, ← List.take_take, ← List.take_take, a2]
      rw [e1]
      exact List.take_prefix _ _
  · obtain ⟨f1, f2, f3⟩ := hr.quo e l hl hj
    exact ⟨f1, f2.ext x hs, see _ _ f1 f3⟩
end
end Go.Proofs.YtgohploghbimlaaDoor

/- Plain laws: candidates, leaders, proposals; all events. -/
namespace Go.Proofs.YtgohploghbimlaaDoor
section
variable {n : Nat} {G : Gh} {s : WS} {k : Nat} {r : Rep}

/-- becomes a candidate -/
theorem Inv.candidate (h : Inv n G s) (hk : s.reps[k]? = some r) {v : List Bool} (hv : v = (List.replicate n false).set r.id.toNat true) :
    ∃ G', Ext G G' ∧ Inv n G' (stepF s k ({ r with epoch := r.epoch + 1, role := 2, voted := r.id, votes := v }, [])) ∧ G'.cand (r.epoch + 1) r.id = some r.log := by
  obtain ⟨hid, hr⟩ := h.rep k r hk
  obtain ⟨G', hG'⟩ : ∃ G' : Gh, G' = { led := G.led, cand := fun e i => if e = r.epoch + 1 ∧ i = r.id then some r.log else G.cand e i } := ⟨_, rfl⟩
  have gl : G'.led = G.led := by rw [hG']
  have gc : ∀ e i, G'.cand e i = if e = r.epoch + 1 ∧ i = r.id then some r.log else G.cand e i := fun e i => by rw [hG']
  clear hG'
  have hnone : ∀ c, G.cand (r.epoch + 1) r.id ≠ some c := by
    intro c hc
    have := (hr.vote (r.epoch + 1) r.id (.inr ⟨rfl, c, hc⟩)).1
    omega
  have hnoled : ∀ l, G.led (r.epoch + 1) = some l → l.id ≠ r.id := by
    intro l hl hi
    have := (hr.acks (r.epoch + 1) 0 (.inr ⟨l, hl, hi, Nat.zero_le _⟩)).1
    omega
  have x : Ext G G' := ⟨fun e l hl => ⟨l, [], by rw [gl]; exact hl, rfl, rfl, by simp, by simp⟩, fun e i c hc => by
    rw [gc]
    split
    · next hh => obtain ⟨rfl, rfl⟩ := hh; exact absurd hc (hnone c)
    · exact hc⟩
  have hack : ∀ j e q, Ack G' s.lets j e q → Ack G s.lets j e q := by
    rintro j e q (hh | ⟨l, hl, hh⟩)
    · exact .inl hh
    · exact .inr ⟨l, by rw [← gl]; exact hl, hh⟩
  have hvo : ∀ j e i, Vote G' s.lets j e i → Vote G s.lets j e i ∨ (e = r.epoch + 1 ∧ i = r.id ∧ j = r.id) := by
    rintro j e i (hh | ⟨rfl, c, hc⟩)
    · exact .inl (.inl hh)
    · rw [gc] at hc
      split at hc
      · next hh => exact .inr ⟨hh.1, hh.2, hh.2⟩
      · exact .inl (.inr ⟨rfl, c, hc⟩)
  have self : G'.cand (r.epoch + 1) r.id = some r.log := by rw [gc, if_pos ⟨rfl, rfl⟩]
  have hcl : ∀ e q d, e < d → Clash G e q d → Clash G' e q d := fun e q d hed hc => hc.ext hed (h.eps e) x
  have see : ∀ j e c, Sees n G s.lets j e c → Sees n G' s.lets j e c := fun j e c hh e0 q l0 ha he hl hc => by
    rcases hh e0 q l0 (hack _ _ _ ha) he (by rw [← gl]; exact hl) hc with g | ⟨d, d1, d2, d3⟩
    · exact .inl g
    · exact .inr ⟨d, d1, d2, hcl _ _ _ d1 d3⟩
  refine ⟨G', x, ?_, self⟩
  have hs : ∀ m ∈ s.lets, m ∈ s.lets := fun m hm => hm
  have ad : Adds (k : Int) G G' s.lets [] := ⟨x, fun e l hl _ => by rw [← gl]; exact hl, fun e i c hc hne => by
      rw [gc] at hc
      split at hc
      · next hh => omega
      · exact hc, by simp, fun e l h1 h2 => by rw [gl, h1] at h2; cases h2⟩
  refine h.move hk ad (by exact hid) ?_ (by simp) (fun e l hl => .inl (by rw [← gl]; exact hl)) (fun e i c hc => ?_)
  · rw [List.append_nil]
    refine ⟨hr.id0, hr.id1, hr.cnt, by have := hr.ep0; dsimp only; omega, properF_hi hr.prop (by dsimp only; omega), hr.cf0, hr.cf1, hr.good.ext x, (fun h3 => by cases h3), fun _ => ⟨by have := hr.ep0; dsimp only; omega, self, fun l hl => hnoled l (by rw [← gl]; exact hl), by rw [hv]; simp, fun i hi => ?_⟩, (fun h3 => by cases h3), fun e i hh => ?_, fun e i j h1 h2 => ?_, fun e q hh => ?_, fun e l hl hj => ?_, hr.conf.ext x hs (by dsimp only; omega) (List.prefix_refl _)⟩
    · rw [hv, List.getElem?_set] at hi
      split at hi
      · next hii => exact .inr ⟨by have := hr.id0; dsimp only; omega, r.log, self⟩
      · rw [List.getElem?_replicate] at hi
        split at hi <;> simp at hi
    · rcases hvo _ _ _ hh with hh | ⟨rfl, rfl, _⟩
      · obtain ⟨g1, g2, g3, c', g4, g5⟩ := hr.vote e i hh
        exact ⟨by dsimp only; omega, g2, fun he => by dsimp only at he; omega, c', x.cand _ _ _ g4, fun hn => see _ _ _ (g5 (by rw [← gl]; exact hn))⟩
      · refine ⟨Int.le_refl _, hr.id0, fun _ => rfl, r.log, self, fun hn => ?_⟩
        intro e0 q l0 ha he hl hc
        obtain ⟨g1, l, g2, g3, g4⟩ := hr.acks e0 q (hack _ _ _ ha)
        rw [gl, g2] at hl
        cases hl
        rcases g4 with g4 | ⟨d, d1, d2, d3⟩
        · exact .inl g4
        · exact .inr ⟨d, d1, by omega, hcl _ _ _ d1 d3⟩
    · have old : ∀ i, Vote G s.lets r.id (r.epoch + 1) i → False := fun i hh => by
        have := (hr.vote _ _ hh).1
        omega
      rcases hvo _ _ _ h1 with g1 | ⟨rfl, rfl, _⟩
      · rcases hvo _ _ _ h2 with g2 | ⟨rfl, rfl, _⟩
        · exact hr.uniq e i j g1 g2
        · exact (old _ g1).elim
      · rcases hvo _ _ _ h2 with g2 | ⟨_, rfl, _⟩
        · exact (old _ g2).elim
        · rfl
    · obtain ⟨g1, l, g2, g3, g4⟩ := hr.acks e q (hack _ _ _ hh)
      exact ⟨by dsimp only; omega, l, by rw [gl]; exact g2, g3, g4.imp id fun ⟨d, d1, d2, d3⟩ => ⟨d, d1, by dsimp only; omega, hcl _ _ _ d1 d3⟩⟩
    · obtain ⟨f1, f2, f3⟩ := hr.quo e l (by rw [← gl]; exact hl) hj
      exact ⟨by dsimp only; omega, f2.ext x hs, see _ _ _ f3⟩
  · rw [gc] at hc
    split at hc
    · next hh =>
      obtain ⟨rfl, rfl⟩ := hh
      cases hc
      exact .inr ⟨hr.id0, hr.id1, properF_hi hr.prop (by omega), hr.good.ext x, fun l hl hi => absurd hi (hnoled l (by rw [← gl]; exact hl))⟩
    · exact .inl hc

/-- a majority's votes make a leader -/
theorem Inv.elect (h : Inv n G s) (hk : s.reps[k]? = some r) (h2 : r.role = 2) (hmaj : 2 * countT r.votes > r.count) {mt : List Int} (hmt : mt = (List.replicate n 0).set r.id.toNat (r.log.length : Int)) :
    ∃ G', Ext G G' ∧ Inv n G' (stepF s k ({ r with role := 3, votes := [], mat := mt }, [])) := by
  obtain ⟨hid, hr⟩ := h.rep k r hk
  obtain ⟨he0, hcand, hnl, hvl, hvt⟩ := hr.cand h2
  obtain ⟨Q, hQ, hQv⟩ := votes_maj hvl (by rw [hr.cnt] at hmaj; exact hmaj)
  have hQV : ∀ j ∈ Q, Vote G s.lets j r.epoch r.id := by
    intro j hj
    obtain ⟨i, rfl, hi⟩ := hQv j hj
    exact hvt i hi
  have hnone : G.led r.epoch = none := by
    cases hg : G.led r.epoch with
    | none => rfl
    | some l =>
      exfalso
      obtain ⟨j, hj1, hj2⟩ := maj_meet hQ (h.led _ _ hg).maj
      have hjn := hQ.2.1 j hj1
      obtain ⟨q, hq⟩ : ∃ q, s.reps[j.toNat]? = some q := ⟨_, List.getElem?_eq_getElem (by rw [h.len]; omega)⟩
      obtain ⟨hqid, hqr⟩ := h.rep _ _ hq
      have hjq : q.id = j := by omega
      obtain ⟨_, hvv, _⟩ := hqr.quo _ _ hg (by rw [hjq]; exact hj2)
      have := hqr.uniq _ _ _ hvv (by rw [hjq]; exact hQV j hj1)
      exact hnl l hg this
  obtain ⟨L, hL⟩ : ∃ L : Led, L = ⟨r.id, r.log, Q⟩ := ⟨_, rfl⟩
  have L1 : L.id = r.id := by rw [hL]
  have L2 : L.log = r.log := by rw [hL]
  have L3 : L.quo = Q := by rw [hL]
  clear hL
  obtain ⟨G', hG'⟩ : ∃ G' : Gh, G' = { led := fun e => if e = r.epoch then some L else G.led e, cand := G.cand } := ⟨_, rfl⟩
  have gl : ∀ e, G'.led e = if e = r.epoch then some L else G.led e := fun e => by rw [hG']
  have gc : G'.cand = G.cand := by rw [hG']
  clear hG'
  have self : G'.led r.epoch = some L := by rw [gl, if_pos rfl]
  have new : ∀ e l, G'.led e = some l → G.led e = some l ∨ (e = r.epoch ∧ l = L) := by
    intro e l hl
    rw [gl] at hl
    split at hl
    · next hh => cases hl; exact .inr ⟨hh, rfl⟩
    · exact .inl hl
  have x : Ext G G' := ⟨fun e l hl => ⟨l, [], by
      rw [gl]
      split
      · next hh => subst hh; rw [hnone] at hl; cases hl
      · exact hl, rfl, rfl, by simp, by simp⟩, fun e i c hc => by rw [gc]; exact hc⟩
  have ad : Adds (k : Int) G G' s.lets [] := ⟨x, fun e l hl hne => by
      rcases new e l hl with g | ⟨_, rfl⟩
      · exact g
      · omega, fun e i c hc _ => by rw [← gc]; exact hc, by simp, fun e l h1 h2' => by
      rcases new e l h2' with g | ⟨rfl, rfl⟩
      · rw [h1] at g; cases g
      · rw [L1, L2, L3]
        exact ⟨by omega, ⟨r.log, by rw [← hid]; exact hcand, List.prefix_refl _⟩, fun j hj => by rw [← hid]; exact hQV j hj⟩⟩
  have hack : ∀ e q, Ack G' s.lets r.id e q → Ack G s.lets r.id e q ∨ (e = r.epoch ∧ q ≤ r.log.length) := by
    rintro e q (hh | ⟨l, hl, h3, h4⟩)
    · exact .inl (.inl hh)
    · rcases new e l hl with g | ⟨rfl, rfl⟩
      · exact .inl (.inr ⟨l, g, h3, h4⟩)
      · exact .inr ⟨rfl, by rw [← L2]; exact h4⟩
  have hvo : ∀ j e i, Vote G' s.lets j e i → Vote G s.lets j e i := by
    rintro j e i (hh | ⟨rfl, c, hc⟩)
    · exact .inl hh
    · exact .inr ⟨rfl, c, by rw [← gc]; exact hc⟩
  have hs : ∀ m ∈ s.lets, m ∈ s.lets := fun m hm => hm
  have hq : ∀ e0 q, Ack G s.lets r.id e0 q → ∃ l, G.led e0 = some l ∧ q ≤ l.log.length := fun e0 q ha => by
    obtain ⟨_, l, h1, h2, _⟩ := hr.acks e0 q ha
    exact ⟨l, h1, h2⟩
  have see : ∀ e c c', e ≤ r.epoch → Sees n G s.lets r.id e c → c <+: c' → Sees n G' s.lets r.id e c' := fun e c c' hle hh hp => hh.ext x h.eps hp (fun e0 q he ha => by
    rcases hack e0 q ha with g | ⟨g, _⟩
    · exact g
    · omega) hq
  have hcl : ∀ e q d, e < d → Clash G e q d → Clash G' e q d := fun e q d hed hc => hc.ext hed (h.eps e) x
  have good := hr.good.ext x
  refine ⟨G', x, h.move hk ad (by exact hid) ?_ (by simp) (fun e l hl => ?_) (fun e i c hc => .inl (by rw [← gc]; exact hc))⟩
  · rw [List.append_nil]
    refine ⟨hr.id0, hr.id1, hr.cnt, hr.ep0, hr.prop, hr.cf0, hr.cf1, good, fun _ => ⟨he0, L, self, L1, L2⟩, (fun h3 => by cases h3), fun _ => ⟨by rw [hmt]; simp, fun i y hy => ?_⟩, fun e i hh => ?_, fun e i j h1 h2 => hr.uniq e i j (hvo _ _ _ h1) (hvo _ _ _ h2), fun e q hh => ?_, fun e l hl hj => ?_, hr.conf.ext x hs (Int.le_refl _) (List.prefix_refl _)⟩
    · rw [hmt, List.getElem?_set] at hy
      split at hy
      · next hii =>
        split at hy
        · simp only [Option.some.injEq] at hy
          subst hy
          have := hr.id0
          exact ⟨by omega, Int.le_refl _, .inr (.inr ⟨L, self, by omega, by rw [L2]; omega⟩)⟩
        · cases hy
      · rw [List.getElem?_replicate] at hy
        split at hy
        · simp only [Option.some.injEq] at hy
          subst hy
          exact ⟨Int.le_refl _, by show (0 : Int) ≤ _; omega, .inl rfl⟩
        · cases hy
    · obtain ⟨g1, g2, g3, c', g4, g5⟩ := hr.vote e i (hvo _ _ _ hh)
      exact ⟨g1, g2, g3, c', x.cand _ _ _ g4, fun hn => see _ _ _ g1 (g5 (x.none hn)) (List.prefix_refl _)⟩
    · rcases hack e q hh with hh | ⟨rfl, hq⟩
      · obtain ⟨g1, l, g2, g3, g4⟩ := hr.acks e q hh
        have gl' : G'.led e = some l := by
          rw [gl]
          split
          · next hh => subst hh; rw [hnone] at g2; cases g2
          · exact g2
        exact ⟨g1, l, gl', g3, g4.imp id fun ⟨d, d1, d2, d3⟩ => ⟨d, d1, d2, hcl _ _ _ d1 d3⟩⟩
      · exact ⟨Int.le_refl _, L, self, by rw [L2]; exact hq, .inl (by rw [L2]; exact List.take_prefix _ _)⟩
    · rcases new e l hl with g | ⟨rfl, rfl⟩
      · obtain ⟨f1, f2, f3⟩ := hr.quo e l g hj
        exact ⟨f1, f2.ext x hs, see _ _ _ f1 f3 (List.prefix_refl _)⟩
      · rw [L3] at hj
        have hv := hQV _ hj
        obtain ⟨f1, _, _, c, f2, f3⟩ := hr.vote _ _ hv
        rw [hcand] at f2; cases f2
        rw [L1, L2]
        exact ⟨Int.le_refl _, hv.ext x hs, see _ _ _ (Int.le_refl _) (f3 hnone) (List.prefix_refl _)⟩
  · rcases new e l hl with g | ⟨rfl, rfl⟩
    · exact .inl g
    · exact .inr ⟨by omega, by rw [L1]; exact hr.id0, by rw [L1]; exact hr.id1, by rw [L2]; exact hr.prop, by rw [L2]; exact good, by rw [L3]; exact hQ⟩

/-- a leader's log grows -/
theorem Inv.propose (h : Inv n G s) (hk : s.reps[k]? = some r) (h3 : r.role = 3) {t : ByteArray} (ht : (t.size : Int) ≤ 8000) :
    ∃ G', Ext G G' ∧ Inv n G' (stepF s k ({ r with log := r.log ++ [⟨r.epoch, t⟩], mat := r.mat.set r.id.toNat ((r.log ++ [(⟨r.epoch, t⟩ : Item)]).length : Int) }, [])) := by
  obtain ⟨hid, hr⟩ := h.rep k r hk
  obtain ⟨he0, l, hl, hlid, hll⟩ := hr.lead h3
  obtain ⟨hm1, hm2⟩ := hr.mat h3
  obtain ⟨P', hP'⟩ : ∃ P', r.log ++ [(⟨r.epoch, t⟩ : Item)] = P' := ⟨_, rfl⟩
  rw [hP']
  have hPl : P'.length = r.log.length + 1 := by rw [← hP']; simp
  have hpre : r.log <+: P' := by rw [← hP']; exact List.prefix_append _ _
  obtain ⟨L, hL⟩ : ∃ L : Led, L = ⟨r.id, P', l.quo⟩ := ⟨_, rfl⟩
  have L1 : L.id = r.id := by rw [hL]
  have L2 : L.log = P' := by rw [hL]
  have L3 : L.quo = l.quo := by rw [hL]
  clear hL
  obtain ⟨G', hG'⟩ : ∃ G' : Gh, G' = { led := fun e => if e = r.epoch then some L else G.led e, cand := G.cand } := ⟨_, rfl⟩
  have gl : ∀ e, G'.led e = if e = r.epoch then some L else G.led e := fun e => by rw [hG']
  have gc : G'.cand = G.cand := by rw [hG']
  clear hG'
  have self : G'.led r.epoch = some L := by rw [gl, if_pos rfl]
  have new : ∀ e l, G'.led e = some l → G.led e = some l ∨ (e = r.epoch ∧ l = L) := by
    intro e l hl
    rw [gl] at hl
    split at hl
    · next hh => cases hl; exact .inr ⟨hh, rfl⟩
    · exact .inl hl
  have x : Ext G G' := ⟨fun e l0 hl0 => by
    by_cases hh : e = r.epoch
    · subst hh
      rw [hl] at hl0; cases hl0
      exact ⟨L, [⟨r.epoch, t⟩], self, by rw [L1, hlid], L3, by rw [L2, hll, hP'], by simp⟩
    · exact ⟨l0, [], by rw [gl, if_neg hh]; exact hl0, rfl, rfl, by simp, by simp⟩, fun e i c hc => by rw [gc]; exact hc⟩
  have ad : Adds (k : Int) G G' s.lets [] := ⟨x, fun e l hl hne => by
      rcases new e l hl with g | ⟨_, rfl⟩
      · exact g
      · omega, fun e i c hc _ => by rw [← gc]; exact hc, by simp, fun e l0 h1 h2' => by
      rcases new e l0 h2' with g | ⟨rfl, rfl⟩
      · rw [h1] at g; cases g
      · rw [hl] at h1; cases h1⟩
  have hack : ∀ e q, Ack G' s.lets r.id e q → Ack G s.lets r.id e q ∨ (e = r.epoch ∧ q ≤ P'.length) := by
    rintro e q (hh | ⟨l, hl, h3, h4⟩)
    · exact .inl (.inl hh)
    · rcases new e l hl with g | ⟨rfl, rfl⟩
      · exact .inl (.inr ⟨l, g, h3, h4⟩)
      · exact .inr ⟨rfl, by rw [← L2]; exact h4⟩
  have hvo : ∀ j e i, Vote G' s.lets j e i → Vote G s.lets j e i := by
    rintro j e i (hh | ⟨rfl, c, hc⟩)
    · exact .inl hh
    · exact .inr ⟨rfl, c, by rw [← gc]; exact hc⟩
  have hs : ∀ m ∈ s.lets, m ∈ s.lets := fun m hm => hm
  have hq : ∀ e0 q, Ack G s.lets r.id e0 q → ∃ l, G.led e0 = some l ∧ q ≤ l.log.length := fun e0 q ha => by
    obtain ⟨_, l, h1, h2, _⟩ := hr.acks e0 q ha
    exact ⟨l, h1, h2⟩
  have see : ∀ e c c', e ≤ r.epoch → Sees n G s.lets r.id e c → c <+: c' → Sees n G' s.lets r.id e c' := fun e c c' hle hh hp => hh.ext x h.eps hp (fun e0 q he ha => by
    rcases hack e0 q ha with g | ⟨g, _⟩
    · exact g
    · omega) hq
  have hcl : ∀ e q d, e < d → Clash G e q d → Clash G' e q d := fun e q d hed hc => hc.ext hed (h.eps e) x
  have good : GoodP G' P' := by
    rw [← hP']
    exact (hr.good.ext x).snoc self (by rw [L2, hP']; exact List.prefix_refl _)
  have hprop : properF P' 1 r.epoch = true := by
    rw [← hP']
    refine properF_append hr.prop ?_
    have hle : lastF r.log ≤ r.epoch := by
      by_cases h0 : 0 < r.log.length
      · have := (lastF_ge hr.prop h0 (Nat.le_refl _)).2
        rw [take_all] at this
        exact this
      · have : r.log = [] := List.eq_nil_of_length_eq_zero (by omega)
        rw [this, lastF_nil]
        omega
    unfold properF
    rw [if_neg (by dsimp only; omega)]
    rfl
  refine ⟨G', x, h.move hk ad (by exact hid) ?_ (by simp) (fun e l0 hl0 => ?_) (fun e i c hc => .inl (by rw [← gc]; exact hc))⟩
  · rw [List.append_nil]
    have hc1 := hr.cf1
    refine ⟨hr.id0, hr.id1, hr.cnt, hr.ep0, hprop, hr.cf0, by dsimp only; omega, good, fun _ => ⟨he0, L, self, L1, L2⟩, fun h2 => ?_, fun _ => ⟨by simpa using hm1, fun i y hy => ?_⟩, fun e i hh => ?_, fun e i j h1 h2 => hr.uniq e i j (hvo _ _ _ h1) (hvo _ _ _ h2), fun e q hh => ?_, fun e l0 hl0 hj => ?_, hr.conf.ext x hs (Int.le_refl _) hpre⟩
    · have h2 : r.role = 2 := h2
      omega
    · simp only [List.getElem?_set] at hy
      split at hy
      · next hii =>
        split at hy
        · simp only [Option.some.injEq] at hy
          subst hy
          have := hr.id0
          exact ⟨by omega, Int.le_refl _, .inr (.inr ⟨L, self, by omega, by rw [L2]; omega⟩)⟩
        · cases hy
      · obtain ⟨g1, g2, g3⟩ := hm2 i y hy
        exact ⟨g1, by dsimp only; omega, g3.imp id fun g => g.ext x hs⟩
    · obtain ⟨g1, g2, g3, c', g4, g5⟩ := hr.vote e i (hvo _ _ _ hh)
      exact ⟨g1, g2, g3, c', x.cand _ _ _ g4, fun hn => see _ _ _ g1 (g5 (x.none hn)) (List.prefix_refl _)⟩
    · rcases hack e q hh with hh | ⟨rfl, hq⟩
      · obtain ⟨g1, l0, g2, g3, g4⟩ := hr.acks e q hh
        obtain ⟨l', u, f1, _, _, f3, _⟩ := x.led _ _ g2
        refine ⟨g1, l', f1, by rw [f3, List.length_append]; omega, ?_⟩
        rw [take_ext (e := e) f3 g3]
        exact g4.imp (fun g => g.trans hpre) (fun ⟨d, d1, d2, d3⟩ => ⟨d, d1, d2, hcl _ _ _ d1 d3⟩)
      · exact ⟨Int.le_refl _, L, self, by rw [L2]; exact hq, .inl (by rw [L2]; exact List.take_prefix _ _)⟩
    · rcases new e l0 hl0 with g | ⟨rfl, rfl⟩
      · obtain ⟨f1, f2, f3⟩ := hr.quo e l0 g hj
        exact ⟨f1, f2.ext x hs, see _ _ _ f1 f3 (List.prefix_refl _)⟩
      · rw [L3] at hj
        obtain ⟨f1, f2, f3⟩ := hr.quo _ l hl hj
        rw [L1, L2]
        rw [hlid] at f2
        exact ⟨f1, f2.ext x hs, see _ _ _ f1 f3 (by rw [hll]; exact hpre)⟩
  · rcases new e l0 hl0 with g | ⟨rfl, rfl⟩
    · exact .inl g
    · exact .inr ⟨by omega, by rw [L1]; exact hr.id0, by rw [L1]; exact hr.id1, by rw [L2]; exact hprop, by rw [L2]; exact good, by rw [L3]; exact (h.led _ _ hl).maj⟩
end
end Go.Proofs.YtgohploghbimlaaDoor

/- Plain laws: every event keeps what is said of the ghost history. -/
namespace Go.Proofs.YtgohploghbimlaaDoor
section
variable {n : Nat} {G : Gh} {s : WS} {k : Nat} {r : Rep}

theorem Ext.trans {G1 G2 G3 : Gh} (a : Ext G1 G2) (b : Ext G2 G3) : Ext G1 G3 := by
  refine ⟨fun e l hl => ?_, fun e i c hc => b.cand _ _ _ (a.cand _ _ _ hc)⟩
  obtain ⟨l1, t1, h1, h2, h3, h4, h5⟩ := a.led e l hl
  obtain ⟨l2, t2, g1, g2, g3, g4, g5⟩ := b.led e l1 h1
  refine ⟨l2, t1 ++ t2, g1, g2.trans h2, g3.trans h3, by rw [g4, h4, List.append_assoc], fun x hx => ?_⟩
  rcases List.mem_append.1 hx with hx | hx
  · exact h5 x hx
  · exact g5 x hx
theorem settleF_role (r : Rep) : (settleF r).role = r.role ∧ (settleF r).epoch = r.epoch ∧ (settleF r).log = r.log ∧ (settleF r).mat = r.mat := by
  unfold settleF
  split
  · exact ⟨rfl, rfl, rfl, rfl⟩
  · simp only
    split <;> exact ⟨rfl, rfl, rfl, rfl⟩
theorem othersF_pos {n : Nat} {id : Int} : ∀ j ∈ othersF n id, 0 ≤ j := fun j hj => (othersF_in hj).1

/-- is elected -/
theorem Inv.lead (h : Inv n G s) (hk : s.reps[k]? = some r) (h2 : r.role = 2) (hmaj : 2 * countT r.votes > r.count) : ∃ G', Ext G G' ∧ Inv n G' (stepF s k (leadF r)) := by
  obtain ⟨hid, hr⟩ := h.rep k r hk
  have hcn : r.count.toNat = n := by have := hr.cnt; omega
  obtain ⟨G', x, h1⟩ := h.elect hk h2 hmaj (mt := (List.replicate r.count.toNat 0).set r.id.toNat (r.log.length : Int)) (by rw [hcn])
  refine ⟨G', x, ?_⟩
  have k1 := stepF_at (p := ({ r with role := 3, votes := [], mat := (List.replicate r.count.toNat 0).set r.id.toNat (r.log.length : Int) }, [])) hk
  have h3 := h1.settle k1 rfl
  rw [stepF_two _ _ rfl] at h3
  obtain ⟨q, hq⟩ : ∃ q, settleF { r with role := 3, votes := [], mat := (List.replicate r.count.toNat 0).set r.id.toNat (r.log.length : Int) } = q := ⟨_, rfl⟩
  have hq3 : q.role = 3 := by rw [← hq]; exact (settleF_role _).1
  unfold leadF
  simp only
  rw [hq] at h3 ⊢
  have k3 := stepF_at (p := (q, [])) hk
  have h4 := h3.sendLogs k3 hq3 (ks := othersF r.count.toNat r.id) othersF_pos
  rw [stepF_two _ _ rfl] at h4
  exact h4
theorem Inv.timeout (h : Inv n G s) (hk : s.reps[k]? = some r) : ∃ G', Ext G G' ∧ Inv n G' (stepF s k (timeoutF r)) := by
  obtain ⟨hid, hr⟩ := h.rep k r hk
  unfold timeoutF
  split
  · next h3 => exact ⟨G, .refl G, h.sendLogs hk h3 othersF_pos⟩
  split
  · exact ⟨G, .refl G, h.idle hk⟩
  simp only
  have hcn : r.count.toNat = n := by have := hr.cnt; omega
  obtain ⟨G', x, h1, hc⟩ := h.candidate hk (v := (List.replicate r.count.toNat false).set r.id.toNat true) (by rw [hcn])
  have k1 := stepF_at (p := ({ r with epoch := r.epoch + 1, role := 2, voted := r.id, votes := (List.replicate r.count.toNat false).set r.id.toNat true }, [])) hk
  split
  · next hn1 =>
    have hn : n = 1 := by
      have := hr.cnt; have := hr.id0; have := hr.id1
      omega
    have hid0 : r.id.toNat = 0 := by have := hr.id0; have := hr.id1; omega
    obtain ⟨G2, x2, h2⟩ := h1.lead k1 rfl (by
      dsimp only
      rw [hcn, hn, hid0, hr.cnt, hn]
      decide)
    rw [stepF_two _ _ rfl] at h2
    exact ⟨G2, x.trans x2, h2⟩
  · refine ⟨G', x, ?_⟩
    have h2 := h1.send k1 (ns := (othersF r.count.toNat r.id).map fun j => { kind := 1, src := r.id, dst := j, ep := r.epoch + 1, pos := r.log.length, aep := lastF r.log, items := [], conf := 0, yes := false }) (fun m hm hy => ?_) (fun m hm => ?_) (fun m hm _ => ?_)
    · rw [stepF_two _ _ rfl] at h2
      exact h2
    · obtain ⟨j, _, rfl⟩ := List.mem_map.1 hm
      cases hy
    · obtain ⟨j, _, rfl⟩ := List.mem_map.1 hm
      exact hid
    · obtain ⟨j, _, rfl⟩ := List.mem_map.1 hm
      exact ⟨fun _ => ⟨r.log, hc, rfl, rfl⟩, (fun h => by cases h)⟩
theorem Inv.vote (h : Inv n G s) (hk : s.reps[k]? = some r) {m : Let} (hm : m ∈ s.lets) (m1 : m.kind = 2) (m3 : m.dst = r.id) (m5 : 0 ≤ m.src) : ∃ G', Ext G G' ∧ Inv n G' (stepF s k (voteF r m)) := by
  unfold voteF
  split
  · exact ⟨G, .refl G, h.idle hk⟩
  next hc =>
  have hr2 : r.role = 2 := by apply Classical.byContradiction; intro hn; exact hc (.inl hn)
  have he : m.ep = r.epoch := by apply Classical.byContradiction; intro hn; exact hc (.inr (.inl hn))
  have hy : m.yes = true := by
    cases hb : m.yes with
    | true => rfl
    | false => exact absurd (Or.inr (Or.inr hb)) hc
  have h1 := h.count hk hr2 hm m1 hy m3 he m5
  simp only
  split
  · next hmaj =>
    obtain ⟨G2, x2, h2⟩ := h1.lead (stepF_at hk) hr2 hmaj
    rw [stepF_two _ _ rfl] at h2
    exact ⟨G2, x2, h2⟩
  · exact ⟨G, .refl G, h1⟩
theorem refusal_mute (r : Rep) (m : Let) : Mute [refusal r m] := by intro x hx hy; simp at hx; subst hx; cases hy
theorem Inv.refuse (h : Inv n G s) (hk : s.reps[k]? = some r) {q : Rep} (hq : q.id = r.id) (m : Let) : Inv n G (stepF s k (r, [refusal q m])) := by
  have hid := (h.rep k r hk).1
  refine h.send hk (refusal_mute _ _) (fun x hx => ?_) (fun x hx _ => ?_)
  · simp at hx; subst hx; show q.id = _; rw [hq]; exact hid
  · simp at hx; subst hx; exact ⟨(fun h => by cases h), (fun h => by cases h)⟩
theorem Inv.append (h : Inv n G s) (hk : s.reps[k]? = some r) {m : Let} (hm : m ∈ s.lets) (m1 : m.kind = 3) (m2 : m.ep ≤ r.epoch) : Inv n G (stepF s k (appendF r m)) := by
  unfold appendF
  split
  · exact h.refuse hk rfl m
  split
  · exact h.idle hk
  simp only
  split
  · have h1 := (h.follow hk).refuse (stepF_at hk) (q := r) rfl m
    rw [stepF_two _ _ rfl] at h1
    exact h1
  · next h1 h2 h3 =>
    have e1 : m.pos ≤ r.log.length := by
      apply Classical.byContradiction; intro hn; exact h3 (.inl (by omega))
    have e2 : lastF (r.log.take m.pos.toNat) = m.aep := by
      apply Classical.byContradiction; intro hn; exact h3 (.inr hn)
    exact h.accept hk hm m1 (by omega) e1 e2
theorem Inv.reply (h : Inv n G s) (hk : s.reps[k]? = some r) {m : Let} (hm : m ∈ s.lets) (m1 : m.kind = 4) (m5 : 0 ≤ m.src) (m6 : m.src < r.count) (m7 : 0 ≤ m.pos) : Inv n G (stepF s k (replyF r m)) := by
  unfold replyF
  split
  · exact h.idle hk
  next hc =>
  have hr3 : r.role = 3 := by apply Classical.byContradiction; intro hn; exact hc (.inl hn)
  have he : m.ep = r.epoch := by apply Classical.byContradiction; intro hn; exact hc (.inr (.inl hn))
  have hy : m.yes = true := by
    cases hb : m.yes with
    | true => rfl
    | false => exact absurd (Or.inr (Or.inr hb)) hc
  have h1 := h.matched hk hr3 hm m1 hy he m5 m6 m7
  simp only
  generalize max (r.mat.getD m.src.toNat 0) (min m.pos r.log.length) = x at *
  have h2 := h1.settle (stepF_at hk) hr3
  rw [stepF_two _ _ rfl] at h2
  dsimp only at h2
  obtain ⟨q, hq⟩ : ∃ q, settleF { r with mat := r.mat.set m.src.toNat x } = q := ⟨_, rfl⟩
  have hq3 : q.role = 3 := by rw [← hq, (settleF_role _).1]; exact hr3
  rw [hq] at h2 ⊢
  have k3 := stepF_at (p := (q, [])) hk
  split
  · have h4 := h2.sendLogs k3 hq3 (ks := [m.src]) (by intro j hj; simp at hj; omega)
    rw [stepF_two _ _ rfl] at h4
    exact h4
  · exact h2
theorem Inv.handle (h : Inv n G s) (hk : s.reps[k]? = some r) {m : Let} (hm : m ∈ s.lets) : ∃ G', Ext G G' ∧ Inv n G' (stepF s k (handleF r m)) := by
  unfold handleF
  split
  · exact ⟨G, .refl G, h.idle hk⟩
  next hf =>
  have hf : fineF r m = true := by simpa using hf
  obtain ⟨f1, f2, f3, f4, f5, f6, f7, f8, _⟩ := fineF_out hf
  have f9 : m.kind ≠ 2 → 0 ≤ m.pos := by
    intro hk2
    unfold fineF at hf
    split at hf
    · cases hf
    split at hf
    · cases hf
    · omega
  simp only
  obtain ⟨r1, hr1⟩ : ∃ r1 : Rep, r1 = if m.ep > r.epoch then { followF r with epoch := m.ep, voted := -1 } else r := ⟨_, rfl⟩
  rw [← hr1]
  have h1 : Inv n G (stepF s k (r1, [])) := by
    rw [hr1]
    split
    · next hh => exact h.bump hk hh
    · exact h.idle hk
  have hc : r1.count = r.count ∧ r1.id = r.id ∧ m.ep ≤ r1.epoch := by
    rw [hr1]
    split
    · exact ⟨rfl, rfl, Int.le_refl _⟩
    · next hh => exact ⟨rfl, rfl, by omega⟩
  obtain ⟨c1, c2, c3⟩ := hc
  have k1 := stepF_at (p := (r1, [])) hk
  have hm1 : m ∈ (stepF s k (r1, [])).lets := by simp [stepF, hm]
  clear hr1
  split
  · next hkind =>
    have h2 := h1.ask k1 hm1 hkind f4 (by rw [c1]; exact f5) (by rw [c2]; exact f6)
    rw [stepF_two _ _ rfl] at h2
    exact ⟨G, .refl G, h2⟩
  split
  · next hkind =>
    obtain ⟨G2, x2, h2⟩ := h1.vote k1 hm1 hkind (by rw [c2]; exact f3) f4
    rw [stepF_two _ _ rfl] at h2
    exact ⟨G2, x2, h2⟩
  split
  · next hkind =>
    have h2 := h1.append k1 hm1 hkind c3
    rw [stepF_two _ _ rfl] at h2
    exact ⟨G, .refl G, h2⟩
  · next hk1 hk2 hk3 =>
    have h2 := h1.reply k1 hm1 (by omega) f4 (by rw [c1]; exact f5) (f9 hk2)
    rw [stepF_two _ _ rfl] at h2
    exact ⟨G, .refl G, h2⟩
theorem Inv.proposed (h : Inv n G s) (hk : s.reps[k]? = some r) (t : ByteArray) : ∃ G', Ext G G' ∧ Inv n G' (stepF s k ((proposeF r t).1, (proposeF r t).2.1)) := by
  unfold proposeF
  split
  · exact ⟨G, .refl G, h.idle hk⟩
  next hr3 =>
  have hr3 : r.role = 3 := by omega
  split
  · exact ⟨G, .refl G, h.idle hk⟩
  next ht =>
  obtain ⟨G', x, h1⟩ := h.propose hk hr3 (t := t) (by omega)
  refine ⟨G', x, ?_⟩
  simp only
  obtain ⟨q, hq⟩ : ∃ q : Rep, q = { r with log := r.log ++ [(⟨r.epoch, t⟩ : Item)], mat := r.mat.set r.id.toNat ((r.log ++ [(⟨r.epoch, t⟩ : Item)]).length : Int) } := ⟨_, rfl⟩
  rw [← hq] at h1 ⊢
  have q3 : q.role = 3 := by rw [hq]; exact hr3
  have k1 := stepF_at (p := (q, [])) hk
  have h2 : Inv n G' (stepF s k ((if r.count = 1 then settleF q else q), [])) := by
    split
    · have h2 := h1.settle k1 q3
      rw [stepF_two _ _ rfl] at h2
      exact h2
    · exact h1
  obtain ⟨p, hp⟩ : ∃ p, (if r.count = 1 then settleF q else q) = p := ⟨_, rfl⟩
  have p3 : p.role = 3 := by
    rw [← hp]
    split
    · rw [(settleF_role _).1]; exact q3
    · exact q3
  rw [hp] at h2 ⊢
  have k2 := stepF_at (p := (p, [])) hk
  have h4 := h2.sendLogs k2 p3 (ks := othersF r.count.toNat r.id) othersF_pos
  rw [stepF_two _ _ rfl] at h4
  exact h4
/-- an event -/
theorem Inv.played (h : Inv n G s) (it : Int → ByteArray) (kind a b : Int) : ∃ G', Ext G G' ∧ Inv n G' (playF it s kind a b) := by
  have same : ∃ G', Ext G G' ∧ Inv n G' s := ⟨G, .refl G, h⟩
  unfold playF
  split
  · exact same
  split
  · split
    · next r hr => exact h.timeout hr
    · exact same
  split
  · split
    · exact same
    split
    · next m hm =>
      split
      · next r hr => exact h.handle hr (List.mem_of_getElem? hm)
      · exact same
    · exact same
  split
  · split
    · next r hr => exact h.proposed hr _
    · exact same
  split
  · split
    · next r hr => exact ⟨G, .refl G, h.restart hr⟩
    · exact same
  · exact same
/-- new replicas -/
theorem Inv.new (n : Nat) (f : Nat → Rep) (hf : ∀ i, i < n → f i = ⟨i, n, 0, -1, 1, [], 0, [], []⟩) {l : List Rep} (hl : l = (List.range n).map f) : Inv n ⟨fun _ => none, fun _ _ => none⟩ ⟨l, []⟩ := by
  refine ⟨(fun e l h => by cases h), (fun e i c h => by cases h), (by rw [hl]; simp), fun k r hr => ?_, (fun m hm => by cases hm)⟩
  have hv : ∀ j e i, ¬ Vote (⟨fun _ => none, fun _ _ => none⟩ : Gh) [] j e i := by
    rintro j e i (⟨m, hm, _⟩ | ⟨_, c, hc⟩)
    · cases hm
    · cases hc
  have ha : ∀ j e q, ¬ Ack (⟨fun _ => none, fun _ _ => none⟩ : Gh) [] j e q := by
    rintro j e q (⟨m, hm, _⟩ | ⟨l, hl, _⟩)
    · cases hm
    · cases hl
  subst hl
  simp only [List.getElem?_map] at hr
  have hk : k < n := by
    apply Classical.byContradiction
    intro hn
    rw [List.getElem?_eq_none (by simp; omega)] at hr
    cases hr
  rw [List.getElem?_range hk] at hr
  simp only [Option.map_some, Option.some.injEq] at hr
  rw [hf k hk] at hr
  subst hr
  exact ⟨rfl, by dsimp only; omega, by dsimp only; omega, rfl, Int.le_refl _, rfl, Int.le_refl _, Int.le_refl _, .nil _, (fun h => by cases h), (fun h => by cases h), (fun h => by cases h), fun e i h => absurd h (hv _ _ _), fun e i k h => absurd h (hv _ _ _), fun e q h => absurd h (ha _ _ _), (fun e l h => by cases h), .inl rfl⟩
end
end Go.Proofs.YtgohploghbimlaaDoor
