/- Plain laws: what the law asks of the replicas behind each event. -/
import Derived.Test.YtgohploghbimlaaDoorKKA
import Derived.Test.YtgohploghbimlaaDoorKTF
set_option linter.unusedVariables false
set_option linter.unusedSimpArgs false
set_option linter.unusedSectionVars false
namespace Go.Proofs.YtgohploghbimlaaDoor
section
variable {n : Nat} {G G' : Gh} {s s' : WS}

/-- what was seen confirmed, and in which epochs -/
structure Seen (n : Nat) (G : Gh) (ls : List Let) (cf : List Item) (wh : List Int) : Prop where
  len : wh.length = cf.length
  at_ : ∀ t y, wh[t]? = some y → ∃ e q l, Comm n G ls e q ∧ G.led e = some l ∧ t < q ∧ e ≤ y ∧ cf.take (t + 1) <+: l.log
theorem Seen.nil : Seen n G [] [] [] := ⟨rfl, fun t y h => by simp at h⟩
theorem Seen.nil' {ls : List Let} : Seen n G ls [] [] := ⟨rfl, fun t y h => by simp at h⟩
theorem Seen.ext {ls ls' : List Let} {cf : List Item} {wh : List Int} (h : Seen n G ls cf wh) (x : Ext G G') (hs : ∀ m ∈ ls, m ∈ ls') : Seen n G' ls' cf wh := by
  refine ⟨h.len, fun t y hy => ?_⟩
  obtain ⟨e, q, l, h1, h2, h3, h4, h5⟩ := h.at_ t y hy
  obtain ⟨l', u, g1, _, _, g3, _⟩ := x.led _ _ h2
  exact ⟨e, q, l', h1.ext x hs, g1, h3, h4, h5.trans (by rw [g3]; exact List.prefix_append _ _)⟩
/-- what a replica has confirmed is the beginning of what was seen, or goes on from it -/
theorem Inv.meets (h : Inv n G s) {k : Nat} {r : Rep} (hk : s.reps[k]? = some r) {cf : List Item} {wh : List Int} (hc : Seen n G s.lets cf wh) : r.log.take r.conf.toNat <+: cf ∨ cf <+: r.log.take r.conf.toNat := by
  obtain ⟨hid, hr⟩ := h.rep k r hk
  by_cases h0 : cf.length = 0
  · have : cf = [] := List.eq_nil_of_length_eq_zero h0
    subst this
    exact .inr (List.nil_prefix)
  rcases hr.conf with hz | ⟨e, q, l, h1, h2, h3, h4, h5, h6⟩
  · rw [hz, List.take_zero]
    exact .inl (List.nil_prefix)
  · obtain ⟨y, hy⟩ : ∃ y, wh[cf.length - 1]? = some y := ⟨_, List.getElem?_eq_getElem (by have := hc.len; omega)⟩
    obtain ⟨d, p, k, g1, g2, g3, g4, g5⟩ := hc.at_ _ _ hy
    have e0 : cf.length - 1 + 1 = cf.length := by omega
    rw [e0, List.take_length] at g5
    have hq : q ≤ l.log.length := by obtain ⟨_, a, b, _⟩ := h1; rw [h3] at a; cases a; exact b
    have hp : p ≤ k.log.length := by obtain ⟨_, a, b, _⟩ := g1; rw [g2] at a; cases a; exact b
    have ha : r.log.take r.conf.toNat <+: l.log.take q := prefix_of_len h6 (List.take_prefix _ _) (by rw [List.length_take, List.length_take]; omega)
    have hb : cf <+: k.log.take p := prefix_of_len g5 (List.take_prefix _ _) (by rw [List.length_take]; omega)
    have tot : ∀ {c : List Item}, r.log.take r.conf.toNat <+: c → cf <+: c → r.log.take r.conf.toNat <+: cf ∨ cf <+: r.log.take r.conf.toNat := fun u v => by
      by_cases hle : (r.log.take r.conf.toNat).length ≤ cf.length
      · exact .inl (prefix_of_len u v hle)
      · exact .inr (prefix_of_len v u (by omega))
    by_cases hed : e ≤ d
    · exact tot (ha.trans (h.agree h1 g1 h3 g2 hed)) g5
    · exact tot h6 (hb.trans (h.agree g1 h1 g2 h3 (by omega)))
/-- what was seen, behind a replica -/
def moreCf (cf : List Item) (r : Rep) : List Item := if cf.length < r.conf.toNat then r.log.take r.conf.toNat else cf
def moreWh (wh : List Int) (r : Rep) : List Int := wh ++ List.replicate (r.conf.toNat - wh.length) r.epoch
theorem Inv.more (h : Inv n G s) {k : Nat} {r : Rep} (hk : s.reps[k]? = some r) {cf : List Item} {wh : List Int} (hc : Seen n G s.lets cf wh) : Seen n G s.lets (moreCf cf r) (moreWh wh r) := by
  obtain ⟨hid, hr⟩ := h.rep k r hk
  have hm := h.meets hk hc
  have hlen := hc.len
  have c0 := hr.cf0
  have c1 := hr.cf1
  unfold moreCf moreWh
  split
  · next hlt =>
    have hpre : cf <+: r.log.take r.conf.toNat := by
      rcases hm with hm | hm
      · have := hm.length_le
        rw [List.length_take] at this
        omega
      · exact hm
    refine ⟨by rw [List.length_append, List.length_replicate, List.length_take]; omega, fun t y hy => ?_⟩
    by_cases ht : t < wh.length
    · rw [List.getElem?_append_left ht] at hy
      obtain ⟨e, q, l, h1, h2, h3, h4, h5⟩ := hc.at_ t y hy
      refine ⟨e, q, l, h1, h2, h3, h4, ?_⟩
      rw [← prefix_take hpre (by omega)]
      exact h5
    · rw [List.getElem?_append_right (by omega), List.getElem?_replicate] at hy
      split at hy
      · next hh =>
        simp only [Option.some.injEq] at hy
        subst hy
        rcases hr.conf with hz | ⟨e, q, l, h1, h2, h3, h4, h5, h6⟩
        · omega
        · exact ⟨e, q, l, h1, h3, by omega, h2, take_prefix_of h6 _⟩
      · cases hy
  · next hlt =>
    have : r.conf.toNat - wh.length = 0 := by omega
    rw [this]
    simpa using hc
/-- two logs with the same epoch at a place -/
theorem Inv.logs (h : Inv n G s) {i j : Nat} {a b : Rep} (ha : s.reps[i]? = some a) (hb : s.reps[j]? = some b) {p : Nat} {x y : Item} (hx : a.log[p]? = some x) (hy : b.log[p]? = some y) (he : x.ep = y.ep) : a.log.take (p + 1) = b.log.take (p + 1) := by
  have h1 := (List.getElem?_eq_some_iff.1 hx).1
  have h2 := (List.getElem?_eq_some_iff.1 hy).1
  obtain ⟨x', _, hx', _, ex⟩ := take_snoc h1
  obtain ⟨y', _, hy', _, ey⟩ := take_snoc h2
  rw [hx] at hx'; cases hx'
  rw [hy] at hy'; cases hy'
  exact (h.rep i a ha).2.good.agree (h.rep j b hb).2.good (by omega) (by omega) (by rw [ex, ey, he])
/-- a leader has what was confirmed in epochs before its own -/
theorem Inv.before (h : Inv n G s) {k : Nat} {r : Rep} (hk : s.reps[k]? = some r) (h3 : r.role = 3) {cf : List Item} {wh : List Int} (hc : Seen n G s.lets cf wh) {b : Nat} (hb : b ≤ cf.length) (hall : ∀ t y, t < b → wh[t]? = some y → y < r.epoch) : cf.take b <+: r.log := by
  obtain ⟨hid, hr⟩ := h.rep k r hk
  by_cases h0 : b = 0
  · subst h0; rw [List.take_zero]; exact List.nil_prefix
  obtain ⟨y, hy⟩ : ∃ y, wh[b - 1]? = some y := ⟨_, List.getElem?_eq_getElem (by have := hc.len; omega)⟩
  obtain ⟨e, q, l, h1, h2, g3, h4, h5⟩ := hc.at_ _ _ hy
  have e0 : b - 1 + 1 = b := by omega
  rw [e0] at h5
  have hlt := hall _ _ (by omega) hy
  obtain ⟨_, ld, f1, f2, f3⟩ := hr.lead h3
  have hq : q ≤ l.log.length := by obtain ⟨_, a, b, _⟩ := h1; rw [h2] at a; cases a; exact b
  have := h.complete h1 h2 _ _ _ rfl (by omega) f1
  rw [f3] at this
  exact (prefix_of_len h5 (List.take_prefix q _) (by rw [List.length_take, List.length_take]; omega)).trans this
/-- leaders that were seen: the map's entries -/
def Heads (G : Gh) (m : Int → Option Int) : Prop := ∀ e k, m e = some k → ∃ l, G.led e = some l ∧ l.id = k
theorem Heads.ext {m : Int → Option Int} (h : Heads G m) (x : Ext G G') : Heads G' m := by
  intro e k hk
  obtain ⟨l, h1, h2⟩ := h e k hk
  obtain ⟨l', u, g1, g2, _⟩ := x.led _ _ h1
  exact ⟨l', g1, g2.trans h2⟩
theorem Inv.head (h : Inv n G s) {k : Nat} {r : Rep} (hk : s.reps[k]? = some r) (h3 : r.role = 3) {m : Int → Option Int} (hm : Heads G m) : (∀ j, m r.epoch = some j → j = k) ∧ Heads G (fun e => if e = r.epoch then some (k : Int) else m e) := by
  obtain ⟨hid, hr⟩ := h.rep k r hk
  obtain ⟨_, l, h1, h2, _⟩ := hr.lead h3
  refine ⟨fun j hj => ?_, fun e j hj => ?_⟩
  · obtain ⟨l', g1, g2⟩ := hm _ _ hj
    rw [h1] at g1; cases g1
    omega
  · simp only at hj
    split at hj
    · next he => cases hj; subst he; exact ⟨l, h1, by omega⟩
    · exact hm e j hj
theorem Inv.news (n : Nat) : Inv n ⟨fun _ => none, fun _ _ => none⟩ ⟨newsF n n, []⟩ := Inv.new n (fun i => ⟨(i : Nat), (n : Int), 0, -1, 1, [], 0, [], []⟩) (fun _ _ => rfl) rfl
theorem playF_lets (it : Int → ByteArray) (s : WS) (k a b : Int) : ∀ m ∈ s.lets, m ∈ (playF it s k a b).lets := by
  have st : ∀ i p, ∀ m ∈ s.lets, m ∈ (stepF s i p).lets := fun i p m hm => by simp [stepF, hm]
  have same : ∀ m ∈ s.lets, m ∈ s.lets := fun _ h => h
  unfold playF
  split
  · exact same
  split
  · split
    · exact st _ _
    · exact same
  split
  · split
    · exact same
    split
    · split
      · exact st _ _
      · exact same
    · exact same
  split
  · split
    · exact st _ _
    · exact same
  split
  · split
    · exact st _ _
    · exact same
  · exact same
end
end Go.Proofs.YtgohploghbimlaaDoor
