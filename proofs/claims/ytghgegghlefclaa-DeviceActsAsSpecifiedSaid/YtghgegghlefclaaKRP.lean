/- Texts that belong together: RP, RG, RS, RH. -/
import Derived.StillTailTactics
import Derived.Test.YtghgegghlefclaaKOwn
set_option linter.unusedVariables false
set_option linter.unusedSimpArgs false
set_option linter.unusedSectionVars false
/- A region that draws its order, each operation known by what it leaves ('post') in whatever order it comes. No program. -/
namespace Go.Proofs.Ytghgegghlefclaa
section
variable {P : Program} {ops : Array Oper} {md : Region.Mode}
def givesUpon (P : Program) (R : Value → World → Prop) : Result Next → Prop
  | .ok (.value v) w' => R v w'
  | .ok .skip w' => R undef w'
  | .ok (.enter f args) w' => Calls P f args w' (fun e w'' => ∃ v, e = .returned v ∧ R v w'')
  | _ => False
def gives (P : Program) (o : Oper) (a : Act) (w : World) (R : Value → World → Prop) : Prop := givesUpon P R ((execOp a.eval o).run P w)
attribute [go_sem] gives givesUpon
def postAt (posts : List (Value → World → Prop)) (j : Nat) (v : Value) (w : World) : Prop := (posts[j]?.getD fun _ _ => True) v w
def dstAt (l : List Oper) (j : Nat) : Option Tmp := (l[j]?).bind (·.dst)
/-- what is known of operation j that has come -/
def postD (posts : List (Value → World → Prop)) (l : List Oper) (j : Nat) (a : Act) (w : World) : Prop :=
  match dstAt l j with
  | some d => postAt posts j (a.tmps[d]?.getD undef) w
  | none => ∃ v, postAt posts j v w
def looksB (l : List Oper) (i j : Nat) : Bool :=
  match l[i]?, dstAt l j with
  | some o, some d => (o.looksAt l.toArray).contains d
  | _, _ => false
/-- i must know of j: it reads its temporary, or is bidden to ('ghosts') -/
def needsB (l : List Oper) (gh : List (Nat × Nat)) (i j : Nat) : Bool := looksB l i j || gh.contains (i, j)
def headD (l : List Oper) (n : Nat) (t : Tmp) : Bool := (List.range n).any fun j => dstAt l j == some t
/-- the form of such a region -/
def parB (md : Region.Mode) (l : List Oper) (n : Nat) (gh cons ine ico : List (Nat × Nat)) : Bool :=
  Region.noSelect l.toArray && decide (n ≤ l.length) && (decide (l.length ≤ n) || (Region.sinkB md l.toArray n && Region.chainB md l.toArray n)) &&
  (List.range n).all (fun i => match l[i]? with
    | some o => o.guard.isNone && o.after.all (fun e => !Region.binds md e || decide (e.on < i))
    | none => false) &&
  (List.range n).all (fun i => (List.range n).all fun j => (decide (i = j) || (dstAt l i).isNone || dstAt l i != dstAt l j) && (!needsB l gh i j || Region.waitsFor md l.toArray i j)) &&
  cons.all (fun c => (List.range n).all fun k => decide (k = c.2) || !needsB l gh k c.1 || Region.waitsFor md l.toArray c.2 k) &&
  ico.all (fun c => ine.all fun k => k.2 != c.1 || decide (k.1 = c.2) || Region.waitsFor md l.toArray c.2 k.1) &&
  Region.seqB md l.toArray (l.length - n) n ((List.range l.length).map (fun i => decide (i < n))).toArray
def consumed (cons : List (Nat × Nat)) (j : Nat) : Bool := cons.any fun c => c.1 == j
def putAll : List Oper → Nat → (Nat → Value) → Act → Act
  | [], _, _, a => a
  | o :: r, k, vs, a => putAll r (k + 1) vs (a.put o.dst (vs k))
theorem put_defers (a : Act) (d : Option Tmp) (v : Value) : (a.put d v).defers = a.defers := by cases d <;> rfl
theorem put_size (a : Act) (d : Option Tmp) (v : Value) : (a.put d v).tmps.size = a.tmps.size := by cases d <;> simp [Act.put]
theorem put_ne (a : Act) (d : Option Tmp) (v : Value) (t : Nat) (h : d ≠ some t) : (a.put d v).tmps[t]? = a.tmps[t]? := by
  cases d with
  | none => rfl
  | some d => simp only [Act.put]; rw [Array.getElem?_setIfInBounds_ne (fun e => h (by rw [e]))]
theorem put_same (a : Act) (t : Nat) (v : Value) (h : t < a.tmps.size) : (a.put (some t) v).tmps[t]? = some v := by
  simp only [Act.put]; rw [Array.getElem?_setIfInBounds_self_of_lt h]
theorem putAll_eq {b : Act} : ∀ (r : List Oper) (k : Nat) (vs : Nat → Value) (a : Act), b.defers = a.defers → b.tmps.size = a.tmps.size →
    (∀ t, (∀ o ∈ r, o.dst ≠ some t) → b.tmps[t]? = a.tmps[t]?) → (∀ j o d, r[j]? = some o → o.dst = some d → vs (k + j) = b.tmps[d]?.getD undef) → putAll r k vs a = b
  | [], k, vs, a, hd, hs, ho, hv => by
    have e : a.tmps = b.tmps := Array.ext_getElem? fun t => (ho t (fun o h => by cases h)).symm
    cases a; cases b; simp_all [putAll]
  | o :: r, k, vs, a, hd, hs, ho, hv => by
    refine putAll_eq r (k + 1) vs (a.put o.dst (vs k)) (by rw [put_defers]; exact hd) (by rw [put_size]; exact hs) (fun t ht => ?_) (fun j o' d hj hd' => ?_)
    · by_cases e : o.dst = some t
      · have h0 := hv 0 o t rfl e
        rw [Nat.add_zero] at h0
        rw [e]
        by_cases hl : t < a.tmps.size
        · rw [put_same _ _ _ hl, h0]
          have hb : t < b.tmps.size := Nat.lt_of_lt_of_eq hl hs.symm
          simp [hb]
        · have h1 : ¬ t < b.tmps.size := fun h => hl (Nat.lt_of_lt_of_eq h hs)
          rw [Array.getElem?_eq_none (Nat.le_of_not_lt h1), Array.getElem?_eq_none (by rw [put_size]; exact Nat.le_of_not_lt hl)]
      · rw [put_ne _ _ _ _ e]
        exact ho t (fun o' h' => by
          rcases List.mem_cons.1 h' with rfl | h'
          · exact e
          · exact ht o' h')
    · have := hv (j + 1) o' d (by simpa using hj) hd'
      rw [← this]; congr 1; omega
def initAt (inits : List (World → Prop)) (q : Nat) (w : World) : Prop := (inits[q]?.getD fun _ => True) w
structure PInv (md : Region.Mode) (l : List Oper) (n : Nat) (cons ico : List (Nat × Nat)) (inits : List (World → Prop)) (C : World → Prop) (posts : List (Value → World → Prop)) (a0 : Act) (listed : Array Bool) (a : Act) (w : World) : Prop where
  head : HeadInv md l.toArray n listed
  c : C w
  d : a.defers = a0.defers
  s : a.tmps.size = a0.tmps.size
  out : ∀ t, headD l n t = false → a.tmps[t]? = a0.tmps[t]?
  post : ∀ j, j < n → listed.getD j false = true → (∀ i, (j, i) ∈ cons → listed.getD i false = false) → postD posts l j a w
  init : ∀ q, (∀ i, (q, i) ∈ ico → listed.getD i false = false) → initAt inits q w
/-- what is asked of an operation -/
def asks (P : Program) (l : List Oper) (n : Nat) (gh cons ine ico : List (Nat × Nat)) (inits : List (World → Prop)) (C : World → Prop) (posts : List (Value → World → Prop)) (a0 : Act) (i : Nat) : Prop :=
  ∀ (o : Oper), l[i]? = some o → ∀ (a : Act) (w : World), C w → (∀ t, headD l n t = false → a.tmps[t]? = a0.tmps[t]?) → (∀ j, j < n → needsB l gh i j = true → postD posts l j a w) → (∀ q, ine.contains (i, q) = true → initAt inits q w) →
    gives P o a w (fun v w' => C w' ∧ postAt posts i v w' ∧ (∀ j, j < n → j ≠ i → cons.contains (j, i) = false → Region.waitsFor .any l.toArray j i = false → ∀ u, postAt posts j u w → postAt posts j u w') ∧ ∀ q, ico.contains (q, i) = false → initAt inits q w → initAt inits q w')
theorem asks_intro {l : List Oper} {n : Nat} {gh cons ine ico : List (Nat × Nat)} {inits : List (World → Prop)} {C : World → Prop} {posts : List (Value → World → Prop)} {a0 : Act} {i : Nat}
    (h : ∀ (o : Oper), l[i]? = some o → ∀ (a : Act) (w : World), C w → (∀ t, headD l n t = false → a.tmps[t]? = a0.tmps[t]?) → (∀ j, j < n → needsB l gh i j = true → postD posts l j a w) → (∀ q, ine.contains (i, q) = true → initAt inits q w) →
      ∀ R : Value → World → Prop, (∀ v w', C w' → postAt posts i v w' → (∀ j, j < n → j ≠ i → cons.contains (j, i) = false → Region.waitsFor .any l.toArray j i = false → ∀ u, postAt posts j u w → postAt posts j u w') → (∀ q, ico.contains (q, i) = false → initAt inits q w → initAt inits q w') → R v w') → gives P o a w R) : asks P l n gh cons ine ico inits C posts a0 i :=
  fun o ho a w hc hout hp hi => h o ho a w hc hout hp hi _ (fun v w' h1 h2 h3 h4 => ⟨h1, h2, h3, h4⟩)
theorem wp_of_gives {o : Oper} {a : Act} {w : World} {R : Value → World → Prop} {K : Act → World → Prop} {Q : Exit → Act → World → Prop} (h : gives P o a w R) (hK : ∀ v w', R v w' → K (a.put o.dst v) w') : o.wp P a w K Q := by
  unfold gives at h
  unfold Oper.wp
  generalize (execOp a.eval o).run P w = r at *
  cases r with
  | ok x w' =>
    cases x <;> simp only [givesUpon] at h <;> simp only [Oper.upon]
    case value v => exact hK _ _ h
    case skip => exact hK _ _ h
    case enter f args => exact h.mono fun e w'' ⟨v, he, hR⟩ => by subst he; exact hK _ _ hR
  | halt x w' => simp only [givesUpon] at h
theorem par_any {l : List Oper} (hmd : md = .any) {n : Nat} {gh cons ine ico : List (Nat × Nat)} {inits : List (World → Prop)} {C : World → Prop} {posts : List (Value → World → Prop)} {a0 : Act} {Q : Exit → Act → World → Prop} (hB : parB md l n gh cons ine ico = true)
    (hz : ∀ j d, j < n → dstAt l j = some d → d < a0.tmps.size)
    (ho : ∀ i, i < n → asks P l n gh cons ine ico inits C posts a0 i)
    (hq : ∀ (listed : Array Bool) (a : Act) (w : World), PInv md l n cons ico inits C posts a0 listed a w → (∀ j, j < n → listed.getD j false = true) → wpList P l.toArray Q (l.drop n) a w) :
    ∀ (m : Nat) (U : List Nat) (listed : Array Bool) (a : Act) (w : World), U.length = m → U.Nodup → (∀ i ∈ U, i < n) → (∀ i, i < n → (listed.getD i true = false ↔ i ∈ U)) → PInv md l n cons ico inits C posts a0 listed a w →
      wpAny P md l.toArray Q (m + (l.length - n)) listed a w := by
  simp only [parB, Bool.and_eq_true, decide_eq_true_eq, Bool.or_eq_true] at hB
  obtain ⟨⟨⟨⟨⟨⟨⟨hsel, hn⟩, htl⟩, hg⟩, hp⟩, hc⟩, hic⟩, hseq⟩ := hB
  have hop : ∀ i, i < n → ∃ o, l[i]? = some o ∧ o.guard = none ∧ ∀ e ∈ o.after, Region.binds md e = true → e.on < i := fun i hi => by
    have := List.all_eq_true.1 hg i (List.mem_range.2 hi)
    split at this
    · rename_i o h1
      simp only [Bool.and_eq_true] at this
      refine ⟨o, h1, Option.isNone_iff_eq_none.1 this.1, fun e he hb => ?_⟩
      have h2 := Array.all_eq_true'.1 this.2 e he
      simpa [hb] using h2
    · cases this
  have hpr : ∀ i j, i < n → j < n → (i ≠ j → dstAt l i = none ∨ dstAt l i ≠ dstAt l j) ∧ (needsB l gh i j = true → Region.waitsFor md l.toArray i j = true) := fun i j hi hj => by
    have h1 := List.all_eq_true.1 (List.all_eq_true.1 hp i (List.mem_range.2 hi)) j (List.mem_range.2 hj)
    simp only [Bool.and_eq_true, Bool.or_eq_true, decide_eq_true_eq, bne_iff_ne, Bool.not_eq_true', Option.isNone_iff_eq_none] at h1
    refine ⟨fun hne => ?_, fun hl => ?_⟩
    · rcases h1.1 with (h | h) | h
      · exact absurd h hne
      · exact .inl h
      · exact .inr h
    · rcases h1.2 with h | h
      · rw [hl] at h; cases h
      · exact h
  have hcn : ∀ j i k, (j, i) ∈ cons → k < n → needsB l gh k j = true → k = i ∨ Region.waitsFor md l.toArray i k = true := fun j i k hm hk hl => by
    have h1 := List.all_eq_true.1 (List.all_eq_true.1 hc (j, i) hm) k (List.mem_range.2 hk)
    simp only [Bool.or_eq_true, decide_eq_true_eq, Bool.not_eq_true'] at h1
    rcases h1 with (h | h) | h
    · exact .inl h
    · rw [hl] at h; cases h
    · exact .inr h
  have hicn : ∀ q i k, (q, i) ∈ ico → (k, q) ∈ ine → k = i ∨ Region.waitsFor md l.toArray i k = true := fun q i k hm hk => by
    have h1 := List.all_eq_true.1 (List.all_eq_true.1 hic (q, i) hm) (k, q) hk
    simp only [Bool.or_eq_true, decide_eq_true_eq, bne_iff_ne] at h1
    rcases h1 with (h | h) | h
    · exact absurd rfl h
    · exact .inl h
    · exact .inr h
  intro m
  induction m with
  | zero =>
    intro U listed a w hU _ _ hmem inv
    obtain rfl : U = [] := List.length_eq_zero_iff.1 hU
    have hall : ∀ j, j < n → listed.getD j false = true := fun j hj => by
      have hjs : j < listed.size := by rw [inv.head.size]; simp; omega
      have h1 : ¬ listed.getD j true = false := fun h => by have := (hmem j hj).1 h; cases this
      simp [hjs] at h1 ⊢
      exact h1
    have e : listed = ((List.range l.length).map (fun i => decide (i < n))).toArray := by
      apply Array.ext
      · rw [inv.head.size]; simp
      · intro i h1 h2
        have hil : i < l.length := by simpa using h2
        have hr : ((List.range l.length).map (fun i => decide (i < n))).toArray[i]'h2 = decide (i < n) := by simp
        rw [hr]
        by_cases hi : i < n
        · have := hall i hi
          simp [h1] at this
          rw [this]; simp [hi]
        · have := inv.head.tail i (by omega) (by simpa using hil)
          simp [h1] at this
          rw [this]; simp [hi]
    have h2 := wpAny_of_seq (md := md) (Q' := Q) (P := P) (l.drop n) n listed a w (fun j => by simp [List.getElem?_drop]) (by rw [e, List.length_drop]; exact hseq) (hq listed a w inv hall)
    rw [List.length_drop] at h2
    rw [Nat.zero_add]; exact h2
  | succ m ih =>
    intro U listed a w hU hnd hUn hmem inv
    -- some operation of the head has not come: the least of them may come
    have hex : ∃ i, i < n ∧ listed.getD i true = false := by
      cases U with
      | nil => cases hU
      | cons i U =>
        have hi := hUn i (List.mem_cons_self ..)
        exact ⟨i, hi, (hmem i hi).2 (List.mem_cons_self ..)⟩
    have hreadyn : ∀ i ∈ Region.ready md l.toArray listed, i < n := fun i hi => by
      obtain ⟨i0, hi0, hu⟩ := hex
      have hil : i < l.length := by
        obtain ⟨_, o, h1, _⟩ := mem_ready.1 hi
        have := (Array.getElem?_eq_some_iff.1 h1).1
        simpa using this
      rcases htl with h | ⟨hs, hch⟩
      · omega
      · by_cases hnl : n < l.length
        · rcases Nat.lt_or_ge i n with h | h
          · exact h
          · exact absurd hi (tail_waits hs hch (by simpa using hnl) inv.head _ i0 rfl hi0 hu i h)
        · omega
    have hready : Region.ready md l.toArray listed ≠ [] := fun hnil => by
      have key : ∀ i, i < n → listed.getD i false = true := fun i => by
        induction i using Nat.strongRecOn with
        | _ i ihi =>
          intro hi
          by_cases hlt : listed.getD i true = false
          · obtain ⟨o, h1, _, h3⟩ := hop i hi
            have : i ∈ Region.ready md l.toArray listed := mem_ready.2 ⟨hlt, o, by simpa using h1, fun e he hb => ihi e.on (h3 e he hb) (by have := h3 e he hb; omega)⟩
            rw [hnil] at this; cases this
          · have hjs : i < listed.size := by rw [inv.head.size]; simp; omega
            simp [hjs] at hlt ⊢
            exact hlt
      obtain ⟨i, hi, hu⟩ := hex
      have h1 := key i hi
      rw [getD_both hu] at h1; cases h1
    rw [show m + 1 + (l.length - n) = (m + (l.length - n)) + 1 by omega]
    refine ⟨fun h => absurd h hready, fun i hi => ?_⟩
    have hin := hreadyn i hi
    obtain ⟨hun, o, hoi, hall⟩ := mem_ready.1 hi
    obtain ⟨o', h1, hgd, _⟩ := hop i hin
    have hoi' : l[i]? = some o := by simpa using hoi
    obtain rfl : o' = o := Option.some.inj (h1.symm.trans hoi')
    have hdsti : dstAt l i = o'.dst := by unfold dstAt; rw [h1]; rfl
    have hg := ho i hin o' h1 a w inv.c inv.out (fun j hj hl => by
      refine inv.post j hj ?_ (fun k hk => ?_)
      · have hw := (hpr i j hin hj).2 hl
        obtain ⟨oj, hj1, e, he, hb, hon⟩ := Region.waitsFor_spec hw
        obtain rfl : oj = o' := Option.some.inj (hj1.symm.trans hoi)
        have := hall e he hb
        rwa [hon] at this
      · rcases hcn j k i hk hin hl with rfl | hw
        · exact getD_both hun
        · obtain ⟨ok, hk1, e, he, hb, hon⟩ := Region.waitsFor_spec hw
          cases hlk : listed.getD k false with
          | false => rfl
          | true =>
            have := inv.head.closed k ok hk1 hlk e he hb
            rw [hon, getD_both hun] at this; cases this) (fun q hq => inv.init q (fun k hk => by
      rcases hicn q k i hk (by simpa using hq) with rfl | hw
      · exact getD_both hun
      · obtain ⟨ok, hk1, e, he, hb, hon⟩ := Region.waitsFor_spec hw
        cases hlk : listed.getD k false with
        | false => rfl
        | true =>
          have := inv.head.closed k ok hk1 hlk e he hb
          rw [hon, getD_both hun] at this; cases this))
    unfold wpOp
    rw [hoi]
    simp only [Region.wanted, hgd, if_true]
    refine .inl (wp_of_gives hg fun v w' hR => ?_)
    obtain ⟨hc', hpi, hkeep, hki⟩ := hR
    have hsz : listed.size = l.length := by rw [inv.head.size]; simp
    have hil : i < listed.size := by omega
    refine ih (U.erase i) _ _ _ (by rw [List.length_erase_of_mem ((hmem i hin).1 hun), hU]; rfl) (hnd.erase i) (fun k hk => hUn k (List.mem_of_mem_erase hk)) (fun k hk => ?_) ⟨inv.head.set hi hin, hc', by rw [put_defers]; exact inv.d, by rw [put_size]; exact inv.s, fun t ht => ?_, fun j hj hlj hcj => ?_, fun q hq => ?_⟩
    · rw [hnd.mem_erase_iff]
      by_cases hki : k = i
      · subst hki
        simp [hil]
      · rw [getD_set_ne true (Ne.symm hki)]
        rw [hmem k hk]
        exact ⟨fun h => ⟨hki, h⟩, fun h => h.2⟩
    · rw [put_ne]
      · exact inv.out t ht
      · intro e
        have h2 : headD l n t = true := by
          unfold headD
          exact List.any_eq_true.2 ⟨i, List.mem_range.2 hin, by rw [hdsti, e]; simp⟩
        rw [ht] at h2; cases h2
    · by_cases hji : j = i
      · subst hji
        unfold postD
        rw [hdsti]
        cases hd : o'.dst with
        | none => exact ⟨v, hpi⟩
        | some d =>
          have hdz : d < a.tmps.size := by rw [inv.s]; exact hz j d hj (by rw [hdsti, hd])
          show postAt posts j ((a.put (some d) v).tmps[d]?.getD undef) w'
          rw [put_same _ _ _ hdz]
          exact hpi
      · rw [getD_set_ne false (Ne.symm hji)] at hlj
        have hnc : (j, i) ∉ cons := fun hm => by
          have := hcj i hm
          simp [hil] at this
        have hold := inv.post j hj hlj (fun k hk => by
          have hki : k ≠ i := fun e => hnc (e ▸ hk)
          have := hcj k hk
          rwa [getD_set_ne false (Ne.symm hki)] at this)
        have hnb : cons.contains (j, i) = false := by simpa using hnc
        have hwf : Region.waitsFor .any l.toArray j i = false := by
          cases hw : Region.waitsFor .any l.toArray j i with
          | false => rfl
          | true =>
            obtain ⟨ok, hk1, e, he, hb, hon⟩ := Region.waitsFor_spec hw
            have := inv.head.closed j ok hk1 hlj e he (by rw [hmd]; exact hb)
            rw [hon, getD_both hun] at this; cases this
        unfold postD at hold ⊢
        have hne := (hpr j i hj hin).1 hji
        cases hd : dstAt l j with
        | none =>
          rw [hd] at hold
          obtain ⟨u, hu⟩ := hold
          exact ⟨u, hkeep j hj hji hnb hwf u hu⟩
        | some d =>
          rw [hd] at hold
          have hdi : o'.dst ≠ some d := fun e => by
            rcases hne with h | h
            · rw [hd] at h; cases h
            · exact h (by rw [hd, hdsti, e])
          show postAt posts j _ w'
          rw [put_ne _ _ _ _ hdi]
          exact hkeep j hj hji hnb hwf _ hold
    · have hnc : (q, i) ∉ ico := fun hm => by
        have := hq i hm
        simp [hil] at this
      exact hki q (by simpa using hnc) (inv.init q (fun k hk => by
        have hne : k ≠ i := fun e => hnc (e ▸ hk)
        have := hq k hk
        rwa [getD_set_ne false (Ne.symm hne)] at this))
def stab (p : Value → World → Prop) : Prop := ∀ u w w', Kept NoM w w' → p u w → p u w'
theorem stab_all {posts : List (Value → World → Prop)} (h : ∀ p ∈ posts, stab p) (j : Nat) (u : Value) (w w' : World) (k : Kept NoM w w') (hp : postAt posts j u w) : postAt posts j u w' := by
  unfold postAt at *
  cases e : posts[j]? with
  | none => trivial
  | some p => rw [e] at hp; exact h p (List.mem_of_getElem? e) u w w' k hp
theorem stab_nil : ∀ p ∈ ([] : List (Value → World → Prop)), stab p := fun p h => by cases h
theorem stab_cons {q : Value → World → Prop} {l : List (Value → World → Prop)} (hq : stab q) (h : ∀ p ∈ l, stab p) : ∀ p ∈ q :: l, stab p := fun p hp => by
  rcases List.mem_cons.1 hp with rfl | hp
  · exact hq
  · exact h p hp
theorem stab_const (v : Value) : stab (fun u _ => u = v) := fun _ _ _ _ h => h
theorem stab_blk {α : Type} (f : α → Value → Prop) (g : α → Nat) (o : α → Obj) : stab (fun u w => ∃ x, f x u ∧ w.heap[g x]? = some (o x)) := fun _ _ _ k ⟨x, h1, h2⟩ => ⟨x, h1, k.blk h2 (fun x => x)⟩
theorem inits_nil {w : World} : ∀ p ∈ ([] : List (World → Prop)), p w := fun p h => by cases h
theorem inits_one {w : World} {q : World → Prop} (h : q w) : ∀ p ∈ [q], p w := fun p hp => by
  rcases List.mem_cons.1 hp with rfl | hp
  · exact h
  · cases hp
theorem init_stab {inits : List (World → Prop)} (hs : ∀ p ∈ inits, ∀ w w', Kept NoM w w' → p w → p w') (q : Nat) (w w' : World) (k : Kept NoM w w') (hp : initAt inits q w) : initAt inits q w' := by
  unfold initAt at *
  cases e : inits[q]? with
  | none => trivial
  | some p => rw [e] at hp; exact hs p (List.mem_of_getElem? e) w w' k hp
/-- an append onto an owned slice -/
theorem gives_append_S {α : Type} {M : Nat → Prop} {e : TypeId} {sz : Nat} {E : List Value → α → Prop} {O : Option Nat} {xs ys : List α} {o : Oper} {a : Act} {w : World} {R : Value → World → Prop} (s x : Operand) (t : TypeId)
    (ho : o.op = .call { callee := .builtin .append, args := #[s, x], argTypes := #[t, t] }) (bytes : Nat) (T : SlTy P t e sz bytes)
    (v : Value) (hv : a.eval s = v) (h : OwnS w O e sz E v xs) (sv : Value) (hsv : a.eval x = sv) (hs : RdS w M sz E sv ys)
    (h1 : ∀ c x, E c x → ∀ u ∈ c, u.oneCell' = true) (h63 : xs.length + ys.length ≤ maxLen) (hby : (xs.length + ys.length) * bytes ≤ 140737488355328)
    (hK : ∀ a' cap' w' O', OwnS w' O' e sz E (.slice a' (xs.length + ys.length) cap') (xs ++ ys) → Kept (fun k => some k = O) w w' → NewO w O O' → R (.slice a' (xs.length + ys.length) cap') w') : gives P o a w R := by
  obtain ⟨a', cap', w', O', hr, h2, h3, h4⟩ := run_append_S (P := P) t o.type bytes T h sv hs h1 h63 hby
  unfold gives execOp
  simp only [ho, resolve, invoke, builtin, Sem.run_bind, Sem.run_pure, Result.andThen_ok, List.map_toArray, List.map_cons, List.map_nil, hv, hsv, hr]
  exact hK a' cap' w' O' h2 h3 h4
/-- **the law** -/
theorem wp_region_par {l : List Oper} {id : Nat} {Q : Exit → Act → World → Prop} {a0 : Act} {w : World} (n : Nat) (gh cons ine ico : List (Nat × Nat)) (inits : List (World → Prop)) (C : World → Prop) (posts : List (Value → World → Prop)) (hm : P.follows .mixedOrders = true) (hB : parB .any l n gh cons ine ico = true)
    (hz : ((List.range n).all fun j => match dstAt l j with | some d => decide (d < a0.tmps.size) | none => true) = true) (hC : C w.drew) (hI : ∀ p ∈ inits, p w.drew)
    (ho : ∀ i, i < n → asks P l n gh cons ine ico inits C posts a0 i)
    (hq : ∀ (vs : Nat → Value) (w' : World), C w' → (∀ j, j < n → consumed cons j = false → match dstAt l j with | some _ => postAt posts j (vs j) w' | none => ∃ v, postAt posts j v w') → wpList P l.toArray Q (l.drop n) (putAll (l.take n) 0 vs a0) w') :
    (Code.region id l.toArray true).wp P Q a0 w := by
  have hz' : ∀ j d, j < n → dstAt l j = some d → d < a0.tmps.size := fun j d hj hd => by
    have := List.all_eq_true.1 hz j (List.mem_range.2 hj)
    rw [hd] at this
    simpa using this
  refine wp_region_any hm ?_
  have hnl : n ≤ l.length := by
    simp only [parB, Bool.and_eq_true, decide_eq_true_eq] at hB
    exact hB.1.1.1.1.1.1.2
  have := par_any (md := .any) rfl (Q := Q) hB hz' ho (fun listed a w' inv hall => ?_) n (List.range n) (Array.replicate l.toArray.size false) a0 w.drew (by simp) List.nodup_range (fun i hi => List.mem_range.1 hi) (fun i hi => ?_) ⟨⟨by simp, fun j oj _ hl => (by rw [getD_replicate_false] at hl; cases hl), fun t _ ht => getD_in (by simpa using ht) (getD_replicate_false _ _)⟩, hC, rfl, rfl, fun _ _ => rfl, fun j _ hl => (by rw [getD_replicate_false] at hl; cases hl), fun q _ => by
    unfold initAt
    cases e : inits[q]? with
    | none => trivial
    | some p => exact hI p (List.mem_of_getElem? e)⟩
  · rw [show n + (l.length - n) = l.toArray.size by simp; omega] at this
    exact this
  · have e := putAll_eq (b := a) (l.take n) 0 (fun k => match dstAt l k with | some d => a.tmps[d]?.getD undef | none => undef) a0 inv.d inv.s (fun t ht => inv.out t (by
      unfold headD
      rw [List.any_eq_false]
      intro j hj hjt
      have hj' := List.mem_range.1 hj
      have hjl : j < l.length := by omega
      have hd : dstAt l j = some t := by simpa using hjt
      unfold dstAt at hd
      rw [List.getElem?_eq_getElem hjl] at hd
      exact ht l[j] (List.mem_take_iff_getElem.2 ⟨j, by omega, rfl⟩) (by simpa using hd))) (fun j o d hj hd => by
      have hjn : j < n := by
        have := (List.getElem?_eq_some_iff.1 hj).1
        simp at this; omega
      have hj2 : l[j]? = some o := by rw [List.getElem?_take_of_lt hjn] at hj; exact hj
      have : dstAt l j = some d := by unfold dstAt; rw [hj2]; exact hd
      simp only [Nat.zero_add, this])
    rw [← e]
    refine hq _ w' inv.c (fun j hj hcj => ?_)
    have hp := inv.post j hj (hall j hj) (fun i hi => by
      have : consumed cons j = true := by
        unfold consumed
        exact List.any_eq_true.2 ⟨(j, i), hi, by simp⟩
      rw [hcj] at this; cases this)
    unfold postD at hp
    cases hd : dstAt l j with
    | none => rw [hd] at hp; exact hp
    | some d => rw [hd] at hp; simp only [hd]; exact hp
  · have : i < (Array.replicate l.toArray.size false).size := by simp; omega
    constructor
    · intro _; exact List.mem_range.2 hi
    · intro _; exact getD_in this (getD_replicate_false _ _)
end
end Go.Proofs.Ytghgegghlefclaa

/- The law for regions that draw their order, where operations are guarded: every guard lets its operation come. No program. -/
namespace Go.Proofs.Ytghgegghlefclaa
open Go.RowKit

section
variable {P : Program} {ops : Array Oper} {md : Region.Mode}
/-- the form of such a region -/
def parBG (md : Region.Mode) (l : List Oper) (n : Nat) (gh cons ine ico : List (Nat × Nat)) : Bool :=
  Region.noSelect l.toArray && decide (n ≤ l.length) && (decide (l.length ≤ n) || (Region.sinkB md l.toArray n && Region.chainB md l.toArray n)) &&
  (List.range n).all (fun i => match l[i]? with
    | some o => o.after.all (fun e => !Region.binds md e || decide (e.on < i))
    | none => false) &&
  (List.range n).all (fun i => (List.range n).all fun j => (decide (i = j) || (dstAt l i).isNone || dstAt l i != dstAt l j) && (!needsB l gh i j || Region.waitsFor md l.toArray i j)) &&
  cons.all (fun c => (List.range n).all fun k => decide (k = c.2) || !needsB l gh k c.1 || Region.waitsFor md l.toArray c.2 k) &&
  ico.all (fun c => ine.all fun k => k.2 != c.1 || decide (k.1 = c.2) || Region.waitsFor md l.toArray c.2 k.1) &&
  (List.range l.length).all (fun k => decide (k < n) || match l[k]? with | some o => o.after.all (fun e => !Region.binds md e || decide (e.on < k)) | none => true)
/-- what is asked of an operation -/
def asksG (P : Program) (l : List Oper) (n : Nat) (gh cons ine ico : List (Nat × Nat)) (inits : List (World → Prop)) (C : World → Prop) (posts : List (Value → World → Prop)) (a0 : Act) (i : Nat) : Prop :=
  ∀ (o : Oper), l[i]? = some o → ∀ (a : Act) (w : World), C w → (∀ t, headD l n t = false → a.tmps[t]? = a0.tmps[t]?) → (∀ j, j < n → needsB l gh i j = true → postD posts l j a w) → (∀ q, ine.contains (i, q) = true → initAt inits q w) →
    Region.wanted o (yielded l.toArray a.tmps) = true ∧ gives P o a w (fun v w' => C w' ∧ postAt posts i v w' ∧ (∀ j, j < n → j ≠ i → cons.contains (j, i) = false → Region.waitsFor .any l.toArray j i = false → ∀ u, postAt posts j u w → postAt posts j u w') ∧ ∀ q, ico.contains (q, i) = false → initAt inits q w → initAt inits q w')
theorem asksG_intro {l : List Oper} {n : Nat} {gh cons ine ico : List (Nat × Nat)} {inits : List (World → Prop)} {C : World → Prop} {posts : List (Value → World → Prop)} {a0 : Act} {i : Nat}
    (h : ∀ (o : Oper), l[i]? = some o → ∀ (a : Act) (w : World), C w → (∀ t, headD l n t = false → a.tmps[t]? = a0.tmps[t]?) → (∀ j, j < n → needsB l gh i j = true → postD posts l j a w) → (∀ q, ine.contains (i, q) = true → initAt inits q w) →
      ∀ R : Value → World → Prop, (∀ v w', C w' → postAt posts i v w' → (∀ j, j < n → j ≠ i → cons.contains (j, i) = false → Region.waitsFor .any l.toArray j i = false → ∀ u, postAt posts j u w → postAt posts j u w') → (∀ q, ico.contains (q, i) = false → initAt inits q w → initAt inits q w') → R v w') → Region.wanted o (yielded l.toArray a.tmps) = true ∧ gives P o a w R) : asksG P l n gh cons ine ico inits C posts a0 i :=
  fun o ho a w hc hout hp hi => h o ho a w hc hout hp hi _ (fun v w' h1 h2 h3 h4 => ⟨h1, h2, h3, h4⟩)
theorem filter_one {p : Nat → Bool} {k : Nat} (hp : p k = true) : ∀ m, k < m → (∀ i, i < m → i ≠ k → p i = false) → (List.range m).filter p = [k] := by
  intro m
  induction m with
  | zero => intro h; omega
  | succ m ih =>
    intro hk ho
    rw [List.range_succ, List.filter_append]
    by_cases e : k = m
    · subst e
      have : (List.range k).filter p = [] := List.filter_eq_nil_iff.2 (fun i hi => by rw [ho i (by have := List.mem_range.1 hi; omega) (by have := List.mem_range.1 hi; omega)]; simp)
      rw [this]
      simp [hp]
    · rw [ih (by omega) (fun i hi hne => ho i (by omega) hne)]
      simp [ho m (by omega) (fun q => e q.symm)]
theorem seq_chain {ops : Array Oper} {md : Region.Mode} {n : Nat} (hch : n < ops.size → Region.chainB md ops n = true) (hb : ∀ (k : Nat) (o : Oper), n ≤ k → ops[k]? = some o → ∀ e ∈ o.after, Region.binds md e = true → e.on < k) :
    ∀ (g k : Nat) (listed : Array Bool), n ≤ k → k + g = ops.size → listed.size = ops.size → (∀ i, i < k → listed.getD i true = true ∧ listed.getD i false = true) → (∀ i, k ≤ i → i < ops.size → listed.getD i true = false) → Region.seqB md ops g k listed = true := by
  intro g
  induction g with
  | zero =>
    intro k listed hn hk hs h1 h2
    unfold Region.seqB Region.ready
    rw [List.isEmpty_iff]
    refine List.filter_eq_nil_iff.2 (fun i hi => ?_)
    rw [(h1 i (by have := List.mem_range.1 hi; omega)).1]
    simp
  | succ g ih =>
    intro k listed hn hk hs h1 h2
    have hks : k < ops.size := by omega
    have hready : Region.ready md ops listed = [k] := by
      unfold Region.ready
      refine filter_one ?_ ops.size hks (fun i hi hne => ?_)
      · have ho : ops[k]? = some ops[k] := by simp [hks]
        have hall : (ops[k].after.all fun e => !Region.binds md e || listed.getD e.on false) = true := Array.all_eq_true'.2 (fun e he => by
          cases hbd : Region.binds md e with
          | false => rfl
          | true => simpa using (h1 e.on (hb k _ hn ho e he hbd)).2)
        rw [h2 k (Nat.le_refl _) hks, ho]
        simp only [Option.map_some, Option.getD_some, hall, Bool.not_false, Bool.true_and]
      · by_cases hlt : i < k
        · rw [(h1 i hlt).1]; rfl
        · have hc := hch (by omega)
          unfold Region.chainB at hc
          have hw := List.all_eq_true.1 hc i (List.mem_range.2 hi)
          simp only [Bool.or_eq_true, decide_eq_true_eq] at hw
          rcases hw with hw | hw
          · omega
          · obtain ⟨oj, hj1, e, he, hbd, hon⟩ := Region.waitsFor_spec hw
            rw [hj1]
            have hf : listed.getD e.on false = false := by rw [hon]; exact getD_both (h2 (i - 1) (by omega) (by omega))
            have : (oj.after.all fun e => !Region.binds md e || listed.getD e.on false) = false := by
              cases hq : (oj.after.all fun e => !Region.binds md e || listed.getD e.on false) with
              | false => rfl
              | true =>
                have := Array.all_eq_true'.1 hq e he
                simp [hbd, hf] at this
            simp only [Option.map_some, Option.getD_some, this, Bool.and_false]
    unfold Region.seqB
    rw [hready]
    simp only [decide_true, Bool.true_and]
    refine ih (k + 1) _ (by omega) (by omega) (by simpa using hs) (fun i hi => ?_) (fun i hi his => ?_)
    · by_cases e : i = k
      · subst e
        have : i < listed.size := by omega
        simp [this]
      · rw [getD_set_ne true (Ne.symm e), getD_set_ne false (Ne.symm e)]
        exact h1 i (by omega)
    · rw [getD_set_ne true (by omega)]
      exact h2 i (by omega) his
theorem par_anyG {l : List Oper} (hmd : md = .any) {n : Nat} {gh cons ine ico : List (Nat × Nat)} {inits : List (World → Prop)} {C : World → Prop} {posts : List (Value → World → Prop)} {a0 : Act} {Q : Exit → Act → World → Prop} (hB : parBG md l n gh cons ine ico = true)
    (hz : ∀ j d, j < n → dstAt l j = some d → d < a0.tmps.size)
    (ho : ∀ i, i < n → asksG P l n gh cons ine ico inits C posts a0 i)
    (hq : ∀ (listed : Array Bool) (a : Act) (w : World), PInv md l n cons ico inits C posts a0 listed a w → (∀ j, j < n → listed.getD j false = true) → wpList P l.toArray Q (l.drop n) a w) :
    ∀ (m : Nat) (U : List Nat) (listed : Array Bool) (a : Act) (w : World), U.length = m → U.Nodup → (∀ i ∈ U, i < n) → (∀ i, i < n → (listed.getD i true = false ↔ i ∈ U)) → PInv md l n cons ico inits C posts a0 listed a w →
      wpAny P md l.toArray Q (m + (l.length - n)) listed a w := by
  simp only [parBG, Bool.and_eq_true, decide_eq_true_eq, Bool.or_eq_true] at hB
  obtain ⟨⟨⟨⟨⟨⟨⟨hsel, hn⟩, htl⟩, hg⟩, hp⟩, hc⟩, hic⟩, hseq⟩ := hB
  have hop : ∀ i, i < n → ∃ o, l[i]? = some o ∧ ∀ e ∈ o.after, Region.binds md e = true → e.on < i := fun i hi => by
    have := List.all_eq_true.1 hg i (List.mem_range.2 hi)
    split at this
    · rename_i o h1
      refine ⟨o, h1, fun e he hb => ?_⟩
      have h2 := Array.all_eq_true'.1 this e he
      simpa [hb] using h2
    · cases this
  have hpr : ∀ i j, i < n → j < n → (i ≠ j → dstAt l i = none ∨ dstAt l i ≠ dstAt l j) ∧ (needsB l gh i j = true → Region.waitsFor md l.toArray i j = true) := fun i j hi hj => by
    have h1 := List.all_eq_true.1 (List.all_eq_true.1 hp i (List.mem_range.2 hi)) j (List.mem_range.2 hj)
    simp only [Bool.and_eq_true, Bool.or_eq_true, decide_eq_true_eq, bne_iff_ne, Bool.not_eq_true', Option.isNone_iff_eq_none] at h1
    refine ⟨fun hne => ?_, fun hl => ?_⟩
    · rcases h1.1 with (h | h) | h
      · exact absurd h hne
      · exact .inl h
      · exact .inr h
    · rcases h1.2 with h | h
      · rw [hl] at h; cases h
      · exact h
  have hcn : ∀ j i k, (j, i) ∈ cons → k < n → needsB l gh k j = true → k = i ∨ Region.waitsFor md l.toArray i k = true := fun j i k hm hk hl => by
    have h1 := List.all_eq_true.1 (List.all_eq_true.1 hc (j, i) hm) k (List.mem_range.2 hk)
    simp only [Bool.or_eq_true, decide_eq_true_eq, Bool.not_eq_true'] at h1
    rcases h1 with (h | h) | h
    · exact .inl h
    · rw [hl] at h; cases h
    · exact .inr h
  have hicn : ∀ q i k, (q, i) ∈ ico → (k, q) ∈ ine → k = i ∨ Region.waitsFor md l.toArray i k = true := fun q i k hm hk => by
    have h1 := List.all_eq_true.1 (List.all_eq_true.1 hic (q, i) hm) (k, q) hk
    simp only [Bool.or_eq_true, decide_eq_true_eq, bne_iff_ne] at h1
    rcases h1 with (h | h) | h
    · exact absurd rfl h
    · exact .inl h
    · exact .inr h
  intro m
  induction m with
  | zero =>
    intro U listed a w hU _ _ hmem inv
    obtain rfl : U = [] := List.length_eq_zero_iff.1 hU
    have hall : ∀ j, j < n → listed.getD j false = true := fun j hj => by
      have hjs : j < listed.size := by rw [inv.head.size]; simp; omega
      have h1 : ¬ listed.getD j true = false := fun h => by have := (hmem j hj).1 h; cases this
      simp [hjs] at h1 ⊢
      exact h1
    have e : listed = ((List.range l.length).map (fun i => decide (i < n))).toArray := by
      apply Array.ext
      · rw [inv.head.size]; simp
      · intro i h1 h2
        have hil : i < l.length := by simpa using h2
        have hr : ((List.range l.length).map (fun i => decide (i < n))).toArray[i]'h2 = decide (i < n) := by simp
        rw [hr]
        by_cases hi : i < n
        · have := hall i hi
          simp [h1] at this
          rw [this]; simp [hi]
        · have := inv.head.tail i (by omega) (by simpa using hil)
          simp [h1] at this
          rw [this]; simp [hi]
    have hsq : Region.seqB md l.toArray (l.length - n) n ((List.range l.length).map (fun i => decide (i < n))).toArray = true := by
      refine seq_chain (n := n) (fun h => ?_) (fun k o hk ho e he hbd => ?_) _ _ _ (Nat.le_refl _) (by simp; omega) (by simp) (fun i hi => ?_) (fun i hi his => ?_)
      · rcases htl with h9 | h9
        · simp at h; omega
        · exact h9.2
      · have hkl : k < l.length := by
          have := (Array.getElem?_eq_some_iff.1 ho).1
          simpa using this
        have h3 := List.all_eq_true.1 hseq k (List.mem_range.2 hkl)
        have ho2 : l[k]? = some o := by simpa using ho
        rw [ho2] at h3
        simp only [Bool.or_eq_true, decide_eq_true_eq] at h3
        rcases h3 with h3 | h3
        · omega
        · have := Array.all_eq_true'.1 h3 e he
          simpa [hbd] using this
      · have : i < l.length := by omega
        simp [this, hi]
      · have h9 : i < l.length := by simpa using his
        have h10 : ¬ i < n := by omega
        simp [h9, h10]
    have h2 := wpAny_of_seq (md := md) (Q' := Q) (P := P) (l.drop n) n listed a w (fun j => by simp [List.getElem?_drop]) (by rw [e, List.length_drop]; exact hsq) (hq listed a w inv hall)
    rw [List.length_drop] at h2
    rw [Nat.zero_add]; exact h2
  | succ m ih =>
    intro U listed a w hU hnd hUn hmem inv
    -- some operation of the head has not come: the least of them may come
    have hex : ∃ i, i < n ∧ listed.getD i true = false := by
      cases U with
      | nil => cases hU
      | cons i U =>
        have hi := hUn i (List.mem_cons_self ..)
        exact ⟨i, hi, (hmem i hi).2 (List.mem_cons_self ..)⟩
    have hreadyn : ∀ i ∈ Region.ready md l.toArray listed, i < n := fun i hi => by
      obtain ⟨i0, hi0, hu⟩ := hex
      have hil : i < l.length := by
        obtain ⟨_, o, h1, _⟩ := mem_ready.1 hi
        have := (Array.getElem?_eq_some_iff.1 h1).1
        simpa using this
      rcases htl with h | ⟨hs, hch⟩
      · omega
      · by_cases hnl : n < l.length
        · rcases Nat.lt_or_ge i n with h | h
          · exact h
          · exact absurd hi (tail_waits hs hch (by simpa using hnl) inv.head _ i0 rfl hi0 hu i h)
        · omega
    have hready : Region.ready md l.toArray listed ≠ [] := fun hnil => by
      have key : ∀ i, i < n → listed.getD i false = true := fun i => by
        induction i using Nat.strongRecOn with
        | _ i ihi =>
          intro hi
          by_cases hlt : listed.getD i true = false
          · obtain ⟨o, h1, h3⟩ := hop i hi
            have : i ∈ Region.ready md l.toArray listed := mem_ready.2 ⟨hlt, o, by simpa using h1, fun e he hb => ihi e.on (h3 e he hb) (by have := h3 e he hb; omega)⟩
            rw [hnil] at this; cases this
          · have hjs : i < listed.size := by rw [inv.head.size]; simp; omega
            simp [hjs] at hlt ⊢
            exact hlt
      obtain ⟨i, hi, hu⟩ := hex
      have h1 := key i hi
      rw [getD_both hu] at h1; cases h1
    rw [show m + 1 + (l.length - n) = (m + (l.length - n)) + 1 by omega]
    refine ⟨fun h => absurd h hready, fun i hi => ?_⟩
    have hin := hreadyn i hi
    obtain ⟨hun, o, hoi, hall⟩ := mem_ready.1 hi
    obtain ⟨o', h1, _⟩ := hop i hin
    have hoi' : l[i]? = some o := by simpa using hoi
    obtain rfl : o' = o := Option.some.inj (h1.symm.trans hoi')
    have hdsti : dstAt l i = o'.dst := by unfold dstAt; rw [h1]; rfl
    have hg := ho i hin o' h1 a w inv.c inv.out (fun j hj hl => by
      refine inv.post j hj ?_ (fun k hk => ?_)
      · have hw := (hpr i j hin hj).2 hl
        obtain ⟨oj, hj1, e, he, hb, hon⟩ := Region.waitsFor_spec hw
        obtain rfl : oj = o' := Option.some.inj (hj1.symm.trans hoi)
        have := hall e he hb
        rwa [hon] at this
      · rcases hcn j k i hk hin hl with rfl | hw
        · exact getD_both hun
        · obtain ⟨ok, hk1, e, he, hb, hon⟩ := Region.waitsFor_spec hw
          cases hlk : listed.getD k false with
          | false => rfl
          | true =>
            have := inv.head.closed k ok hk1 hlk e he hb
            rw [hon, getD_both hun] at this; cases this) (fun q hq => inv.init q (fun k hk => by
      rcases hicn q k i hk (by simpa using hq) with rfl | hw
      · exact getD_both hun
      · obtain ⟨ok, hk1, e, he, hb, hon⟩ := Region.waitsFor_spec hw
        cases hlk : listed.getD k false with
        | false => rfl
        | true =>
          have := inv.head.closed k ok hk1 hlk e he hb
          rw [hon, getD_both hun] at this; cases this))
    unfold wpOp
    rw [hoi]
    simp only []
    rw [if_pos hg.1]
    refine .inl (wp_of_gives hg.2 fun v w' hR => ?_)
    obtain ⟨hc', hpi, hkeep, hki⟩ := hR
    have hsz : listed.size = l.length := by rw [inv.head.size]; simp
    have hil : i < listed.size := by omega
    refine ih (U.erase i) _ _ _ (by rw [List.length_erase_of_mem ((hmem i hin).1 hun), hU]; rfl) (hnd.erase i) (fun k hk => hUn k (List.mem_of_mem_erase hk)) (fun k hk => ?_) ⟨inv.head.set hi hin, hc', by rw [put_defers]; exact inv.d, by rw [put_size]; exact inv.s, fun t ht => ?_, fun j hj hlj hcj => ?_, fun q hq => ?_⟩
    · rw [hnd.mem_erase_iff]
      by_cases hki : k = i
      · subst hki
        simp [hil]
      · rw [getD_set_ne true (Ne.symm hki)]
        rw [hmem k hk]
        exact ⟨fun h => ⟨hki, h⟩, fun h => h.2⟩
    · rw [put_ne]
      · exact inv.out t ht
      · intro e
        have h2 : headD l n t = true := by
          unfold headD
          exact List.any_eq_true.2 ⟨i, List.mem_range.2 hin, by rw [hdsti, e]; simp⟩
        rw [ht] at h2; cases h2
    · by_cases hji : j = i
      · subst hji
        unfold postD
        rw [hdsti]
        cases hd : o'.dst with
        | none => exact ⟨v, hpi⟩
        | some d =>
          have hdz : d < a.tmps.size := by rw [inv.s]; exact hz j d hj (by rw [hdsti, hd])
          show postAt posts j ((a.put (some d) v).tmps[d]?.getD undef) w'
          rw [put_same _ _ _ hdz]
          exact hpi
      · rw [getD_set_ne false (Ne.symm hji)] at hlj
        have hnc : (j, i) ∉ cons := fun hm => by
          have := hcj i hm
          simp [hil] at this
        have hold := inv.post j hj hlj (fun k hk => by
          have hki : k ≠ i := fun e => hnc (e ▸ hk)
          have := hcj k hk
          rwa [getD_set_ne false (Ne.symm hki)] at this)
        have hnb : cons.contains (j, i) = false := by simpa using hnc
        have hwf : Region.waitsFor .any l.toArray j i = false := by
          cases hw : Region.waitsFor .any l.toArray j i with
          | false => rfl
          | true =>
            obtain ⟨ok, hk1, e, he, hb, hon⟩ := Region.waitsFor_spec hw
            have := inv.head.closed j ok hk1 hlj e he (by rw [hmd]; exact hb)
            rw [hon, getD_both hun] at this; cases this
        unfold postD at hold ⊢
        have hne := (hpr j i hj hin).1 hji
        cases hd : dstAt l j with
        | none =>
          rw [hd] at hold
          obtain ⟨u, hu⟩ := hold
          exact ⟨u, hkeep j hj hji hnb hwf u hu⟩
        | some d =>
          rw [hd] at hold
          have hdi : o'.dst ≠ some d := fun e => by
            rcases hne with h | h
            · rw [hd] at h; cases h
            · exact h (by rw [hd, hdsti, e])
          show postAt posts j _ w'
          rw [put_ne _ _ _ _ hdi]
          exact hkeep j hj hji hnb hwf _ hold
    · have hnc : (q, i) ∉ ico := fun hm => by
        have := hq i hm
        simp [hil] at this
      exact hki q (by simpa using hnc) (inv.init q (fun k hk => by
        have hne : k ≠ i := fun e => hnc (e ▸ hk)
        have := hq k hk
        rwa [getD_set_ne false (Ne.symm hne)] at this))
/-- **the law** -/
theorem wp_region_parG {l : List Oper} {id : Nat} {Q : Exit → Act → World → Prop} {a0 : Act} {w : World} (n : Nat) (gh cons ine ico : List (Nat × Nat)) (inits : List (World → Prop)) (C : World → Prop) (posts : List (Value → World → Prop)) (hm : P.follows .mixedOrders = true) (hB : parBG .any l n gh cons ine ico = true)
    (hz : ((List.range n).all fun j => match dstAt l j with | some d => decide (d < a0.tmps.size) | none => true) = true) (hC : C w.drew) (hI : ∀ p ∈ inits, p w.drew)
    (ho : ∀ i, i < n → asksG P l n gh cons ine ico inits C posts a0 i)
    (hq : ∀ (vs : Nat → Value) (w' : World), C w' → (∀ j, j < n → consumed cons j = false → match dstAt l j with | some _ => postAt posts j (vs j) w' | none => ∃ v, postAt posts j v w') → wpList P l.toArray Q (l.drop n) (putAll (l.take n) 0 vs a0) w') :
    (Code.region id l.toArray true).wp P Q a0 w := by
  have hz' : ∀ j d, j < n → dstAt l j = some d → d < a0.tmps.size := fun j d hj hd => by
    have := List.all_eq_true.1 hz j (List.mem_range.2 hj)
    rw [hd] at this
    simpa using this
  refine wp_region_any hm ?_
  have hnl : n ≤ l.length := by
    simp only [parBG, Bool.and_eq_true, decide_eq_true_eq] at hB
    exact hB.1.1.1.1.1.1.2
  have := par_anyG (md := .any) rfl (Q := Q) hB hz' ho (fun listed a w' inv hall => ?_) n (List.range n) (Array.replicate l.toArray.size false) a0 w.drew (by simp) List.nodup_range (fun i hi => List.mem_range.1 hi) (fun i hi => ?_) ⟨⟨by simp, fun j oj _ hl => (by rw [getD_replicate_false] at hl; cases hl), fun t _ ht => getD_in (by simpa using ht) (getD_replicate_false _ _)⟩, hC, rfl, rfl, fun _ _ => rfl, fun j _ hl => (by rw [getD_replicate_false] at hl; cases hl), fun q _ => by
    unfold initAt
    cases e : inits[q]? with
    | none => trivial
    | some p => exact hI p (List.mem_of_getElem? e)⟩
  · rw [show n + (l.length - n) = l.toArray.size by simp; omega] at this
    exact this
  · have e := putAll_eq (b := a) (l.take n) 0 (fun k => match dstAt l k with | some d => a.tmps[d]?.getD undef | none => undef) a0 inv.d inv.s (fun t ht => inv.out t (by
      unfold headD
      rw [List.any_eq_false]
      intro j hj hjt
      have hj' := List.mem_range.1 hj
      have hjl : j < l.length := by omega
      have hd : dstAt l j = some t := by simpa using hjt
      unfold dstAt at hd
      rw [List.getElem?_eq_getElem hjl] at hd
      exact ht l[j] (List.mem_take_iff_getElem.2 ⟨j, by omega, rfl⟩) (by simpa using hd))) (fun j o d hj hd => by
      have hjn : j < n := by
        have := (List.getElem?_eq_some_iff.1 hj).1
        simp at this; omega
      have hj2 : l[j]? = some o := by rw [List.getElem?_take_of_lt hjn] at hj; exact hj
      have : dstAt l j = some d := by unfold dstAt; rw [hj2]; exact hd
      simp only [Nat.zero_add, this])
    rw [← e]
    refine hq _ w' inv.c (fun j hj hcj => ?_)
    have hp := inv.post j hj (hall j hj) (fun i hi => by
      have : consumed cons j = true := by
        unfold consumed
        exact List.any_eq_true.2 ⟨(j, i), hi, by simp⟩
      rw [hcj] at this; cases this)
    unfold postD at hp
    cases hd : dstAt l j with
    | none => rw [hd] at hp; exact hp
    | some d => rw [hd] at hp; simp only [hd]; exact hp
  · have : i < (Array.replicate l.toArray.size false).size := by simp; omega
    constructor
    · intro _; exact List.mem_range.2 hi
    · intro _; exact getD_in this (getD_replicate_false _ _)
theorem wanted_none {o : Oper} {y : Nat → Option Bool} (h : o.guard = none) : Region.wanted o y = true := by simp [Region.wanted, h]
theorem wanted_some {o : Oper} {l : List Oper} {tm : Array Value} {g : Nat} {b : Bool} {d : Tmp} (h : o.guard = some (g, b)) (hd : dstAt l g = some d) (he : tm[d]?.getD undef = .bool b) : Region.wanted o (yielded l.toArray tm) = true := by
  have h1 : tm[d]? = some (.bool b) := by
    cases e : tm[d]? with
    | none => rw [e] at he; cases he
    | some v => rw [e] at he; simpa using he
  have h2 : (l.toArray[g]?).bind (·.dst) = some d := by
    unfold dstAt at hd
    simpa using hd
  have h3 : yielded l.toArray tm g = some b := by
    unfold yielded
    rw [h2]
    simp [h1]
  simp [Region.wanted, h, h3]
end
end Go.Proofs.Ytghgegghlefclaa

/- The law for drawn regions (RP.lean) where an operation that has no temporary of its own may speak of the temporary of one that came before it. No program. -/
namespace Go.Proofs.Ytghgegghlefclaa
section
variable {P : Program} {ops : Array Oper} {md : Region.Mode}
/-- the temporary that operation j speaks of -/
def seeAt (see : List (Nat × Nat)) (l : List Oper) (j : Nat) : Option Tmp :=
  match dstAt l j with
  | some d => some d
  | none => see.lookup j
def postS (see : List (Nat × Nat)) (posts : List (Value → World → Prop)) (l : List Oper) (j : Nat) (a : Act) (w : World) : Prop :=
  match seeAt see l j with
  | some d => postAt posts j (a.tmps[d]?.getD undef) w
  | none => ∃ v, postAt posts j v w
/-- what operation i, that gave v, speaks of -/
def seen (see : List (Nat × Nat)) (l : List Oper) (i : Nat) (a : Act) (v : Value) : Value :=
  match dstAt l i with
  | some _ => v
  | none => match see.lookup i with
    | some t => a.tmps[t]?.getD undef
    | none => v
/-- it speaks of what came before it -/
def seeB (md : Region.Mode) (l : List Oper) (n : Nat) (see : List (Nat × Nat)) : Bool :=
  (List.range n).all fun j => match see.lookup j with
    | some t => (List.range n).all fun i => dstAt l i != some t || Region.waitsFor md l.toArray j i
    | none => true
structure PInvS (see : List (Nat × Nat)) (md : Region.Mode) (l : List Oper) (n : Nat) (cons ico : List (Nat × Nat)) (inits : List (World → Prop)) (C : World → Prop) (posts : List (Value → World → Prop)) (a0 : Act) (listed : Array Bool) (a : Act) (w : World) : Prop where
  head : HeadInv md l.toArray n listed
  c : C w
  d : a.defers = a0.defers
  s : a.tmps.size = a0.tmps.size
  out : ∀ t, headD l n t = false → a.tmps[t]? = a0.tmps[t]?
  post : ∀ j, j < n → listed.getD j false = true → (∀ i, (j, i) ∈ cons → listed.getD i false = false) → postS see posts l j a w
  init : ∀ q, (∀ i, (q, i) ∈ ico → listed.getD i false = false) → initAt inits q w
/-- what is asked of an operation -/
def asksS (see : List (Nat × Nat)) (P : Program) (l : List Oper) (n : Nat) (gh cons ine ico : List (Nat × Nat)) (inits : List (World → Prop)) (C : World → Prop) (posts : List (Value → World → Prop)) (a0 : Act) (i : Nat) : Prop :=
  ∀ (o : Oper), l[i]? = some o → ∀ (a : Act) (w : World), C w → (∀ t, headD l n t = false → a.tmps[t]? = a0.tmps[t]?) → (∀ j, j < n → needsB l gh i j = true → postS see posts l j a w) → (∀ q, ine.contains (i, q) = true → initAt inits q w) →
    gives P o a w (fun v w' => C w' ∧ postAt posts i (seen see l i a v) w' ∧ (∀ j, j < n → j ≠ i → cons.contains (j, i) = false → Region.waitsFor .any l.toArray j i = false → ∀ u, postAt posts j u w → postAt posts j u w') ∧ ∀ q, ico.contains (q, i) = false → initAt inits q w → initAt inits q w')
theorem asksS_intro {see : List (Nat × Nat)} {l : List Oper} {n : Nat} {gh cons ine ico : List (Nat × Nat)} {inits : List (World → Prop)} {C : World → Prop} {posts : List (Value → World → Prop)} {a0 : Act} {i : Nat}
    (h : ∀ (o : Oper), l[i]? = some o → ∀ (a : Act) (w : World), C w → (∀ t, headD l n t = false → a.tmps[t]? = a0.tmps[t]?) → (∀ j, j < n → needsB l gh i j = true → postS see posts l j a w) → (∀ q, ine.contains (i, q) = true → initAt inits q w) →
      ∀ R : Value → World → Prop, (∀ v w', C w' → postAt posts i (seen see l i a v) w' → (∀ j, j < n → j ≠ i → cons.contains (j, i) = false → Region.waitsFor .any l.toArray j i = false → ∀ u, postAt posts j u w → postAt posts j u w') → (∀ q, ico.contains (q, i) = false → initAt inits q w → initAt inits q w') → R v w') → gives P o a w R) : asksS see P l n gh cons ine ico inits C posts a0 i :=
  fun o ho a w hc hout hp hi => h o ho a w hc hout hp hi _ (fun v w' h1 h2 h3 h4 => ⟨h1, h2, h3, h4⟩)
theorem par_anyS {see : List (Nat × Nat)} {l : List Oper} (hmd : md = .any) {n : Nat} {gh cons ine ico : List (Nat × Nat)} {inits : List (World → Prop)} {C : World → Prop} {posts : List (Value → World → Prop)} {a0 : Act} {Q : Exit → Act → World → Prop} (hB : parB md l n gh cons ine ico = true) (hS : seeB md l n see = true)
    (hz : ∀ j d, j < n → dstAt l j = some d → d < a0.tmps.size)
    (ho : ∀ i, i < n → asksS see P l n gh cons ine ico inits C posts a0 i)
    (hq : ∀ (listed : Array Bool) (a : Act) (w : World), PInvS see md l n cons ico inits C posts a0 listed a w → (∀ j, j < n → listed.getD j false = true) → wpList P l.toArray Q (l.drop n) a w) :
    ∀ (m : Nat) (U : List Nat) (listed : Array Bool) (a : Act) (w : World), U.length = m → U.Nodup → (∀ i ∈ U, i < n) → (∀ i, i < n → (listed.getD i true = false ↔ i ∈ U)) → PInvS see md l n cons ico inits C posts a0 listed a w →
      wpAny P md l.toArray Q (m + (l.length - n)) listed a w := by
  simp only [parB, Bool.and_eq_true, decide_eq_true_eq, Bool.or_eq_true] at hB
  obtain ⟨⟨⟨⟨⟨⟨⟨hsel, hn⟩, htl⟩, hg⟩, hp⟩, hc⟩, hic⟩, hseq⟩ := hB
  have hop : ∀ i, i < n → ∃ o, l[i]? = some o ∧ o.guard = none ∧ ∀ e ∈ o.after, Region.binds md e = true → e.on < i := fun i hi => by
    have := List.all_eq_true.1 hg i (List.mem_range.2 hi)
    split at this
    · rename_i o h1
      simp only [Bool.and_eq_true] at this
      refine ⟨o, h1, Option.isNone_iff_eq_none.1 this.1, fun e he hb => ?_⟩
      have h2 := Array.all_eq_true'.1 this.2 e he
      simpa [hb] using h2
    · cases this
  have hpr : ∀ i j, i < n → j < n → (i ≠ j → dstAt l i = none ∨ dstAt l i ≠ dstAt l j) ∧ (needsB l gh i j = true → Region.waitsFor md l.toArray i j = true) := fun i j hi hj => by
    have h1 := List.all_eq_true.1 (List.all_eq_true.1 hp i (List.mem_range.2 hi)) j (List.mem_range.2 hj)
    simp only [Bool.and_eq_true, Bool.or_eq_true, decide_eq_true_eq, bne_iff_ne, Bool.not_eq_true', Option.isNone_iff_eq_none] at h1
    refine ⟨fun hne => ?_, fun hl => ?_⟩
    · rcases h1.1 with (h | h) | h
      · exact absurd h hne
      · exact .inl h
      · exact .inr h
    · rcases h1.2 with h | h
      · rw [hl] at h; cases h
      · exact h
  have hcn : ∀ j i k, (j, i) ∈ cons → k < n → needsB l gh k j = true → k = i ∨ Region.waitsFor md l.toArray i k = true := fun j i k hm hk hl => by
    have h1 := List.all_eq_true.1 (List.all_eq_true.1 hc (j, i) hm) k (List.mem_range.2 hk)
    simp only [Bool.or_eq_true, decide_eq_true_eq, Bool.not_eq_true'] at h1
    rcases h1 with (h | h) | h
    · exact .inl h
    · rw [hl] at h; cases h
    · exact .inr h
  have hicn : ∀ q i k, (q, i) ∈ ico → (k, q) ∈ ine → k = i ∨ Region.waitsFor md l.toArray i k = true := fun q i k hm hk => by
    have h1 := List.all_eq_true.1 (List.all_eq_true.1 hic (q, i) hm) (k, q) hk
    simp only [Bool.or_eq_true, decide_eq_true_eq, bne_iff_ne] at h1
    rcases h1 with (h | h) | h
    · exact absurd rfl h
    · exact .inl h
    · exact .inr h
  intro m
  induction m with
  | zero =>
    intro U listed a w hU _ _ hmem inv
    obtain rfl : U = [] := List.length_eq_zero_iff.1 hU
    have hall : ∀ j, j < n → listed.getD j false = true := fun j hj => by
      have hjs : j < listed.size := by rw [inv.head.size]; simp; omega
      have h1 : ¬ listed.getD j true = false := fun h => by have := (hmem j hj).1 h; cases this
      simp [hjs] at h1 ⊢
      exact h1
    have e : listed = ((List.range l.length).map (fun i => decide (i < n))).toArray := by
      apply Array.ext
      · rw [inv.head.size]; simp
      · intro i h1 h2
        have hil : i < l.length := by simpa using h2
        have hr : ((List.range l.length).map (fun i => decide (i < n))).toArray[i]'h2 = decide (i < n) := by simp
        rw [hr]
        by_cases hi : i < n
        · have := hall i hi
          simp [h1] at this
          rw [this]; simp [hi]
        · have := inv.head.tail i (by omega) (by simpa using hil)
          simp [h1] at this
          rw [this]; simp [hi]
    have h2 := wpAny_of_seq (md := md) (Q' := Q) (P := P) (l.drop n) n listed a w (fun j => by simp [List.getElem?_drop]) (by rw [e, List.length_drop]; exact hseq) (hq listed a w inv hall)
    rw [List.length_drop] at h2
    rw [Nat.zero_add]; exact h2
  | succ m ih =>
    intro U listed a w hU hnd hUn hmem inv
    -- some operation of the head has not come: the least of them may come
    have hex : ∃ i, i < n ∧ listed.getD i true = false := by
      cases U with
      | nil => cases hU
      | cons i U =>
        have hi := hUn i (List.mem_cons_self ..)
        exact ⟨i, hi, (hmem i hi).2 (List.mem_cons_self ..)⟩
    have hreadyn : ∀ i ∈ Region.ready md l.toArray listed, i < n := fun i hi => by
      obtain ⟨i0, hi0, hu⟩ := hex
      have hil : i < l.length := by
        obtain ⟨_, o, h1, _⟩ := mem_ready.1 hi
        have := (Array.getElem?_eq_some_iff.1 h1).1
        simpa using this
      rcases htl with h | ⟨hs, hch⟩
      · omega
      · by_cases hnl : n < l.length
        · rcases Nat.lt_or_ge i n with h | h
          · exact h
          · exact absurd hi (tail_waits hs hch (by simpa using hnl) inv.head _ i0 rfl hi0 hu i h)
        · omega
    have hready : Region.ready md l.toArray listed ≠ [] := fun hnil => by
      have key : ∀ i, i < n → listed.getD i false = true := fun i => by
        induction i using Nat.strongRecOn with
        | _ i ihi =>
          intro hi
          by_cases hlt : listed.getD i true = false
          · obtain ⟨o, h1, _, h3⟩ := hop i hi
            have : i ∈ Region.ready md l.toArray listed := mem_ready.2 ⟨hlt, o, by simpa using h1, fun e he hb => ihi e.on (h3 e he hb) (by have := h3 e he hb; omega)⟩
            rw [hnil] at this; cases this
          · have hjs : i < listed.size := by rw [inv.head.size]; simp; omega
            simp [hjs] at hlt ⊢
            exact hlt
      obtain ⟨i, hi, hu⟩ := hex
      have h1 := key i hi
      rw [getD_both hu] at h1; cases h1
    rw [show m + 1 + (l.length - n) = (m + (l.length - n)) + 1 by omega]
    refine ⟨fun h => absurd h hready, fun i hi => ?_⟩
    have hin := hreadyn i hi
    obtain ⟨hun, o, hoi, hall⟩ := mem_ready.1 hi
    obtain ⟨o', h1, hgd, _⟩ := hop i hin
    have hoi' : l[i]? = some o := by simpa using hoi
    obtain rfl : o' = o := Option.some.inj (h1.symm.trans hoi')
    have hdsti : dstAt l i = o'.dst := by unfold dstAt; rw [h1]; rfl
    have hg := ho i hin o' h1 a w inv.c inv.out (fun j hj hl => by
      refine inv.post j hj ?_ (fun k hk => ?_)
      · have hw := (hpr i j hin hj).2 hl
        obtain ⟨oj, hj1, e, he, hb, hon⟩ := Region.waitsFor_spec hw
        obtain rfl : oj = o' := Option.some.inj (hj1.symm.trans hoi)
        have := hall e he hb
        rwa [hon] at this
      · rcases hcn j k i hk hin hl with rfl | hw
        · exact getD_both hun
        · obtain ⟨ok, hk1, e, he, hb, hon⟩ := Region.waitsFor_spec hw
          cases hlk : listed.getD k false with
          | false => rfl
          | true =>
            have := inv.head.closed k ok hk1 hlk e he hb
            rw [hon, getD_both hun] at this; cases this) (fun q hq => inv.init q (fun k hk => by
      rcases hicn q k i hk (by simpa using hq) with rfl | hw
      · exact getD_both hun
      · obtain ⟨ok, hk1, e, he, hb, hon⟩ := Region.waitsFor_spec hw
        cases hlk : listed.getD k false with
        | false => rfl
        | true =>
          have := inv.head.closed k ok hk1 hlk e he hb
          rw [hon, getD_both hun] at this; cases this))
    unfold wpOp
    rw [hoi]
    simp only [Region.wanted, hgd, if_true]
    refine .inl (wp_of_gives hg fun v w' hR => ?_)
    obtain ⟨hc', hpi, hkeep, hki⟩ := hR
    have hsz : listed.size = l.length := by rw [inv.head.size]; simp
    have hil : i < listed.size := by omega
    refine ih (U.erase i) _ _ _ (by rw [List.length_erase_of_mem ((hmem i hin).1 hun), hU]; rfl) (hnd.erase i) (fun k hk => hUn k (List.mem_of_mem_erase hk)) (fun k hk => ?_) ⟨inv.head.set hi hin, hc', by rw [put_defers]; exact inv.d, by rw [put_size]; exact inv.s, fun t ht => ?_, fun j hj hlj hcj => ?_, fun q hq => ?_⟩
    · rw [hnd.mem_erase_iff]
      by_cases hki : k = i
      · subst hki
        simp [hil]
      · rw [getD_set_ne true (Ne.symm hki)]
        rw [hmem k hk]
        exact ⟨fun h => ⟨hki, h⟩, fun h => h.2⟩
    · rw [put_ne]
      · exact inv.out t ht
      · intro e
        have h2 : headD l n t = true := by
          unfold headD
          exact List.any_eq_true.2 ⟨i, List.mem_range.2 hin, by rw [hdsti, e]; simp⟩
        rw [ht] at h2; cases h2
    · by_cases hji : j = i
      · subst hji
        unfold postS seeAt
        unfold seen at hpi
        rw [hdsti] at hpi ⊢
        cases hd : o'.dst with
        | none =>
          rw [hd] at hpi
          simp only at hpi ⊢
          cases hl : see.lookup j with
          | none => rw [hl] at hpi; exact ⟨v, hpi⟩
          | some t => rw [hl] at hpi; exact hpi
        | some d =>
          rw [hd] at hpi
          have hdz : d < a.tmps.size := by rw [inv.s]; exact hz j d hj (by rw [hdsti, hd])
          show postAt posts j ((a.put (some d) v).tmps[d]?.getD undef) w'
          rw [put_same _ _ _ hdz]
          exact hpi
      · rw [getD_set_ne false (Ne.symm hji)] at hlj
        have hnc : (j, i) ∉ cons := fun hm => by
          have := hcj i hm
          simp [hil] at this
        have hold := inv.post j hj hlj (fun k hk => by
          have hki : k ≠ i := fun e => hnc (e ▸ hk)
          have := hcj k hk
          rwa [getD_set_ne false (Ne.symm hki)] at this)
        have hnb : cons.contains (j, i) = false := by simpa using hnc
        have hwf : Region.waitsFor .any l.toArray j i = false := by
          cases hw : Region.waitsFor .any l.toArray j i with
          | false => rfl
          | true =>
            obtain ⟨ok, hk1, e, he, hb, hon⟩ := Region.waitsFor_spec hw
            have := inv.head.closed j ok hk1 hlj e he (by rw [hmd]; exact hb)
            rw [hon, getD_both hun] at this; cases this
        unfold postS at hold ⊢
        cases hd : seeAt see l j with
        | none =>
          rw [hd] at hold
          obtain ⟨u, hu⟩ := hold
          exact ⟨u, hkeep j hj hji hnb hwf u hu⟩
        | some d =>
          rw [hd] at hold
          have hdi : o'.dst ≠ some d := fun e => by
            unfold seeAt at hd
            cases hdj : dstAt l j with
            | some d' =>
              rw [hdj] at hd
              have hne := (hpr j i hj hin).1 hji
              rcases hne with h | h
              · rw [hdj] at h; cases h
              · exact h (by rw [hdj, hdsti, e]; exact hd)
            | none =>
              rw [hdj] at hd
              have h1 := List.all_eq_true.1 hS j (List.mem_range.2 hj)
              simp only at hd
              rw [hd] at h1
              have h2 := List.all_eq_true.1 h1 i (List.mem_range.2 hin)
              rw [hdsti, e] at h2
              simp only [bne_self_eq_false, Bool.false_or] at h2
              obtain ⟨ok, hk1, e2, he, hb, hon⟩ := Region.waitsFor_spec h2
              have := inv.head.closed j ok hk1 hlj e2 he hb
              rw [hon, getD_both hun] at this; cases this
          show postAt posts j _ w'
          rw [put_ne _ _ _ _ hdi]
          exact hkeep j hj hji hnb hwf _ hold
    · have hnc : (q, i) ∉ ico := fun hm => by
        have := hq i hm
        simp [hil] at this
      exact hki q (by simpa using hnc) (inv.init q (fun k hk => by
        have hne : k ≠ i := fun e => hnc (e ▸ hk)
        have := hq k hk
        rwa [getD_set_ne false (Ne.symm hne)] at this))
/-- **the law** -/
theorem wp_region_see {l : List Oper} {id : Nat} {Q : Exit → Act → World → Prop} {a0 : Act} {w : World} (n : Nat) (see : List (Nat × Nat)) (gh cons ine ico : List (Nat × Nat)) (inits : List (World → Prop)) (C : World → Prop) (posts : List (Value → World → Prop)) (hm : P.follows .mixedOrders = true) (hB : parB .any l n gh cons ine ico = true) (hS : seeB .any l n see = true)
    (hz : ((List.range n).all fun j => match dstAt l j with | some d => decide (d < a0.tmps.size) | none => true) = true) (hC : C w.drew) (hI : ∀ p ∈ inits, p w.drew)
    (ho : ∀ i, i < n → asksS see P l n gh cons ine ico inits C posts a0 i)
    (hq : ∀ (vs : Nat → Value) (w' : World), C w' → (∀ j, j < n → consumed cons j = false → match dstAt l j with | some _ => postAt posts j (vs j) w' | none => match see.lookup j with | some t => ∀ k, k < n → dstAt l k = some t → postAt posts j (vs k) w' | none => ∃ v, postAt posts j v w') → wpList P l.toArray Q (l.drop n) (putAll (l.take n) 0 vs a0) w') :
    (Code.region id l.toArray true).wp P Q a0 w := by
  have hz' : ∀ j d, j < n → dstAt l j = some d → d < a0.tmps.size := fun j d hj hd => by
    have := List.all_eq_true.1 hz j (List.mem_range.2 hj)
    rw [hd] at this
    simpa using this
  refine wp_region_any hm ?_
  have hnl : n ≤ l.length := by
    simp only [parB, Bool.and_eq_true, decide_eq_true_eq] at hB
    exact hB.1.1.1.1.1.1.2
  have := par_anyS (see := see) (md := .any) rfl (Q := Q) hB hS hz' ho (fun listed a w' inv hall => ?_) n (List.range n) (Array.replicate l.toArray.size false) a0 w.drew (by simp) List.nodup_range (fun i hi => List.mem_range.1 hi) (fun i hi => ?_) ⟨⟨by simp, fun j oj _ hl => (by rw [getD_replicate_false] at hl; cases hl), fun t _ ht => getD_in (by simpa using ht) (getD_replicate_false _ _)⟩, hC, rfl, rfl, fun _ _ => rfl, fun j _ hl => (by rw [getD_replicate_false] at hl; cases hl), fun q _ => by
    unfold initAt
    cases e : inits[q]? with
    | none => trivial
    | some p => exact hI p (List.mem_of_getElem? e)⟩
  · rw [show n + (l.length - n) = l.toArray.size by simp; omega] at this
    exact this
  · have e := putAll_eq (b := a) (l.take n) 0 (fun k => match dstAt l k with | some d => a.tmps[d]?.getD undef | none => undef) a0 inv.d inv.s (fun t ht => inv.out t (by
      unfold headD
      rw [List.any_eq_false]
      intro j hj hjt
      have hj' := List.mem_range.1 hj
      have hjl : j < l.length := by omega
      have hd : dstAt l j = some t := by simpa using hjt
      unfold dstAt at hd
      rw [List.getElem?_eq_getElem hjl] at hd
      exact ht l[j] (List.mem_take_iff_getElem.2 ⟨j, by omega, rfl⟩) (by simpa using hd))) (fun j o d hj hd => by
      have hjn : j < n := by
        have := (List.getElem?_eq_some_iff.1 hj).1
        simp at this; omega
      have hj2 : l[j]? = some o := by rw [List.getElem?_take_of_lt hjn] at hj; exact hj
      have : dstAt l j = some d := by unfold dstAt; rw [hj2]; exact hd
      simp only [Nat.zero_add, this])
    rw [← e]
    refine hq _ w' inv.c (fun j hj hcj => ?_)
    have hp := inv.post j hj (hall j hj) (fun i hi => by
      have : consumed cons j = true := by
        unfold consumed
        exact List.any_eq_true.2 ⟨(j, i), hi, by simp⟩
      rw [hcj] at this; cases this)
    unfold postS seeAt at hp
    cases hd : dstAt l j with
    | some d => rw [hd] at hp; simp only [hd]; exact hp
    | none =>
      rw [hd] at hp
      simp only at hp ⊢
      cases hl : see.lookup j with
      | none => rw [hl] at hp; exact hp
      | some t =>
        rw [hl] at hp
        intro k hk hkd
        simp only [hkd]
        exact hp
  · have : i < (Array.replicate l.toArray.size false).size := by simp; omega
    constructor
    · intro _; exact List.mem_range.2 hi
    · intro _; exact getD_in this (getD_replicate_false _ _)
end
end Go.Proofs.Ytghgegghlefclaa


/- The law for drawn regions with guards (RG.lean) where a guard may hold its operation back. No program. -/
namespace Go.Proofs.Ytghgegghlefclaa
open Go.RowKit
section
variable {P : Program} {ops : Array Oper} {md : Region.Mode}
def asksH (P : Program) (l : List Oper) (n : Nat) (gh cons ine ico : List (Nat × Nat)) (inits : List (World → Prop)) (C : World → Prop) (posts : List (Value → World → Prop)) (a0 : Act) (i : Nat) : Prop :=
  ∀ (o : Oper), l[i]? = some o → ∀ (a : Act) (w : World), C w → (∀ t, headD l n t = false → a.tmps[t]? = a0.tmps[t]?) → (∀ j, j < n → needsB l gh i j = true → postD posts l j a w) → (∀ q, ine.contains (i, q) = true → initAt inits q w) →
    (Region.wanted o (yielded l.toArray a.tmps) = true ∧ gives P o a w (fun v w' => C w' ∧ postAt posts i v w' ∧ (∀ j, j < n → j ≠ i → cons.contains (j, i) = false → Region.waitsFor .any l.toArray j i = false → ∀ u, postAt posts j u w → postAt posts j u w') ∧ ∀ q, ico.contains (q, i) = false → initAt inits q w → initAt inits q w')) ∨ (Region.wanted o (yielded l.toArray a.tmps) = false ∧ (fun v w' => C w' ∧ postAt posts i v w' ∧ (∀ j, j < n → j ≠ i → cons.contains (j, i) = false → Region.waitsFor .any l.toArray j i = false → ∀ u, postAt posts j u w → postAt posts j u w') ∧ ∀ q, ico.contains (q, i) = false → initAt inits q w → initAt inits q w') undef w)
theorem asksH_intro {l : List Oper} {n : Nat} {gh cons ine ico : List (Nat × Nat)} {inits : List (World → Prop)} {C : World → Prop} {posts : List (Value → World → Prop)} {a0 : Act} {i : Nat}
    (h : ∀ (o : Oper), l[i]? = some o → ∀ (a : Act) (w : World), C w → (∀ t, headD l n t = false → a.tmps[t]? = a0.tmps[t]?) → (∀ j, j < n → needsB l gh i j = true → postD posts l j a w) → (∀ q, ine.contains (i, q) = true → initAt inits q w) →
      ∀ R : Value → World → Prop, (∀ v w', C w' → postAt posts i v w' → (∀ j, j < n → j ≠ i → cons.contains (j, i) = false → Region.waitsFor .any l.toArray j i = false → ∀ u, postAt posts j u w → postAt posts j u w') → (∀ q, ico.contains (q, i) = false → initAt inits q w → initAt inits q w') → R v w') → (Region.wanted o (yielded l.toArray a.tmps) = true ∧ gives P o a w R) ∨ (Region.wanted o (yielded l.toArray a.tmps) = false ∧ R undef w)) : asksH P l n gh cons ine ico inits C posts a0 i :=
  fun o ho a w hc hout hp hi => h o ho a w hc hout hp hi _ (fun v w' h1 h2 h3 h4 => ⟨h1, h2, h3, h4⟩)
theorem par_anyH {l : List Oper} (hmd : md = .any) {n : Nat} {gh cons ine ico : List (Nat × Nat)} {inits : List (World → Prop)} {C : World → Prop} {posts : List (Value → World → Prop)} {a0 : Act} {Q : Exit → Act → World → Prop} (hB : parBG md l n gh cons ine ico = true)
    (hz : ∀ j d, j < n → dstAt l j = some d → d < a0.tmps.size)
    (ho : ∀ i, i < n → asksH P l n gh cons ine ico inits C posts a0 i)
    (hq : ∀ (listed : Array Bool) (a : Act) (w : World), PInv md l n cons ico inits C posts a0 listed a w → (∀ j, j < n → listed.getD j false = true) → wpList P l.toArray Q (l.drop n) a w) :
    ∀ (m : Nat) (U : List Nat) (listed : Array Bool) (a : Act) (w : World), U.length = m → U.Nodup → (∀ i ∈ U, i < n) → (∀ i, i < n → (listed.getD i true = false ↔ i ∈ U)) → PInv md l n cons ico inits C posts a0 listed a w →
      wpAny P md l.toArray Q (m + (l.length - n)) listed a w := by
  simp only [parBG, Bool.and_eq_true, decide_eq_true_eq, Bool.or_eq_true] at hB
  obtain ⟨⟨⟨⟨⟨⟨⟨hsel, hn⟩, htl⟩, hg⟩, hp⟩, hc⟩, hic⟩, hseq⟩ := hB
  have hop : ∀ i, i < n → ∃ o, l[i]? = some o ∧ ∀ e ∈ o.after, Region.binds md e = true → e.on < i := fun i hi => by
    have := List.all_eq_true.1 hg i (List.mem_range.2 hi)
    split at this
    · rename_i o h1
      refine ⟨o, h1, fun e he hb => ?_⟩
      have h2 := Array.all_eq_true'.1 this e he
      simpa [hb] using h2
    · cases this
  have hpr : ∀ i j, i < n → j < n → (i ≠ j → dstAt l i = none ∨ dstAt l i ≠ dstAt l j) ∧ (needsB l gh i j = true → Region.waitsFor md l.toArray i j = true) := fun i j hi hj => by
    have h1 := List.all_eq_true.1 (List.all_eq_true.1 hp i (List.mem_range.2 hi)) j (List.mem_range.2 hj)
    simp only [Bool.and_eq_true, Bool.or_eq_true, decide_eq_true_eq, bne_iff_ne, Bool.not_eq_true', Option.isNone_iff_eq_none] at h1
    refine ⟨fun hne => ?_, fun hl => ?_⟩
    · rcases h1.1 with (h | h) | h
      · exact absurd h hne
      · exact .inl h
      · exact .inr h
    · rcases h1.2 with h | h
      · rw [hl] at h; cases h
      · exact h
  have hcn : ∀ j i k, (j, i) ∈ cons → k < n → needsB l gh k j = true → k = i ∨ Region.waitsFor md l.toArray i k = true := fun j i k hm hk hl => by
    have h1 := List.all_eq_true.1 (List.all_eq_true.1 hc (j, i) hm) k (List.mem_range.2 hk)
    simp only [Bool.or_eq_true, decide_eq_true_eq, Bool.not_eq_true'] at h1
    rcases h1 with (h | h) | h
    · exact .inl h
    · rw [hl] at h; cases h
    · exact .inr h
  have hicn : ∀ q i k, (q, i) ∈ ico → (k, q) ∈ ine → k = i ∨ Region.waitsFor md l.toArray i k = true := fun q i k hm hk => by
    have h1 := List.all_eq_true.1 (List.all_eq_true.1 hic (q, i) hm) (k, q) hk
    simp only [Bool.or_eq_true, decide_eq_true_eq, bne_iff_ne] at h1
    rcases h1 with (h | h) | h
    · exact absurd rfl h
    · exact .inl h
    · exact .inr h
  intro m
  induction m with
  | zero =>
    intro U listed a w hU _ _ hmem inv
    obtain rfl : U = [] := List.length_eq_zero_iff.1 hU
    have hall : ∀ j, j < n → listed.getD j false = true := fun j hj => by
      have hjs : j < listed.size := by rw [inv.head.size]; simp; omega
      have h1 : ¬ listed.getD j true = false := fun h => by have := (hmem j hj).1 h; cases this
      simp [hjs] at h1 ⊢
      exact h1
    have e : listed = ((List.range l.length).map (fun i => decide (i < n))).toArray := by
      apply Array.ext
      · rw [inv.head.size]; simp
      · intro i h1 h2
        have hil : i < l.length := by simpa using h2
        have hr : ((List.range l.length).map (fun i => decide (i < n))).toArray[i]'h2 = decide (i < n) := by simp
        rw [hr]
        by_cases hi : i < n
        · have := hall i hi
          simp [h1] at this
          rw [this]; simp [hi]
        · have := inv.head.tail i (by omega) (by simpa using hil)
          simp [h1] at this
          rw [this]; simp [hi]
    have hsq : Region.seqB md l.toArray (l.length - n) n ((List.range l.length).map (fun i => decide (i < n))).toArray = true := by
      refine seq_chain (n := n) (fun h => ?_) (fun k o hk ho e he hbd => ?_) _ _ _ (Nat.le_refl _) (by simp; omega) (by simp) (fun i hi => ?_) (fun i hi his => ?_)
      · rcases htl with h9 | h9
        · simp at h; omega
        · exact h9.2
      · have hkl : k < l.length := by
          have := (Array.getElem?_eq_some_iff.1 ho).1
          simpa using this
        have h3 := List.all_eq_true.1 hseq k (List.mem_range.2 hkl)
        have ho2 : l[k]? = some o := by simpa using ho
        rw [ho2] at h3
        simp only [Bool.or_eq_true, decide_eq_true_eq] at h3
        rcases h3 with h3 | h3
        · omega
        · have := Array.all_eq_true'.1 h3 e he
          simpa [hbd] using this
      · have : i < l.length := by omega
        simp [this, hi]
      · have h9 : i < l.length := by simpa using his
        have h10 : ¬ i < n := by omega
        simp [h9, h10]
    have h2 := wpAny_of_seq (md := md) (Q' := Q) (P := P) (l.drop n) n listed a w (fun j => by simp [List.getElem?_drop]) (by rw [e, List.length_drop]; exact hsq) (hq listed a w inv hall)
    rw [List.length_drop] at h2
    rw [Nat.zero_add]; exact h2
  | succ m ih =>
    intro U listed a w hU hnd hUn hmem inv
    -- some operation of the head has not come: the least of them may come
    have hex : ∃ i, i < n ∧ listed.getD i true = false := by
      cases U with
      | nil => cases hU
      | cons i U =>
        have hi := hUn i (List.mem_cons_self ..)
        exact ⟨i, hi, (hmem i hi).2 (List.mem_cons_self ..)⟩
    have hreadyn : ∀ i ∈ Region.ready md l.toArray listed, i < n := fun i hi => by
      obtain ⟨i0, hi0, hu⟩ := hex
      have hil : i < l.length := by
        obtain ⟨_, o, h1, _⟩ := mem_ready.1 hi
        have := (Array.getElem?_eq_some_iff.1 h1).1
        simpa using this
      rcases htl with h | ⟨hs, hch⟩
      · omega
      · by_cases hnl : n < l.length
        · rcases Nat.lt_or_ge i n with h | h
          · exact h
          · exact absurd hi (tail_waits hs hch (by simpa using hnl) inv.head _ i0 rfl hi0 hu i h)
        · omega
    have hready : Region.ready md l.toArray listed ≠ [] := fun hnil => by
      have key : ∀ i, i < n → listed.getD i false = true := fun i => by
        induction i using Nat.strongRecOn with
        | _ i ihi =>
          intro hi
          by_cases hlt : listed.getD i true = false
          · obtain ⟨o, h1, h3⟩ := hop i hi
            have : i ∈ Region.ready md l.toArray listed := mem_ready.2 ⟨hlt, o, by simpa using h1, fun e he hb => ihi e.on (h3 e he hb) (by have := h3 e he hb; omega)⟩
            rw [hnil] at this; cases this
          · have hjs : i < listed.size := by rw [inv.head.size]; simp; omega
            simp [hjs] at hlt ⊢
            exact hlt
      obtain ⟨i, hi, hu⟩ := hex
      have h1 := key i hi
      rw [getD_both hu] at h1; cases h1
    rw [show m + 1 + (l.length - n) = (m + (l.length - n)) + 1 by omega]
    refine ⟨fun h => absurd h hready, fun i hi => ?_⟩
    have hin := hreadyn i hi
    obtain ⟨hun, o, hoi, hall⟩ := mem_ready.1 hi
    obtain ⟨o', h1, _⟩ := hop i hin
    have hoi' : l[i]? = some o := by simpa using hoi
    obtain rfl : o' = o := Option.some.inj (h1.symm.trans hoi')
    have hdsti : dstAt l i = o'.dst := by unfold dstAt; rw [h1]; rfl
    have hg := ho i hin o' h1 a w inv.c inv.out (fun j hj hl => by
      refine inv.post j hj ?_ (fun k hk => ?_)
      · have hw := (hpr i j hin hj).2 hl
        obtain ⟨oj, hj1, e, he, hb, hon⟩ := Region.waitsFor_spec hw
        obtain rfl : oj = o' := Option.some.inj (hj1.symm.trans hoi)
        have := hall e he hb
        rwa [hon] at this
      · rcases hcn j k i hk hin hl with rfl | hw
        · exact getD_both hun
        · obtain ⟨ok, hk1, e, he, hb, hon⟩ := Region.waitsFor_spec hw
          cases hlk : listed.getD k false with
          | false => rfl
          | true =>
            have := inv.head.closed k ok hk1 hlk e he hb
            rw [hon, getD_both hun] at this; cases this) (fun q hq => inv.init q (fun k hk => by
      rcases hicn q k i hk (by simpa using hq) with rfl | hw
      · exact getD_both hun
      · obtain ⟨ok, hk1, e, he, hb, hon⟩ := Region.waitsFor_spec hw
        cases hlk : listed.getD k false with
        | false => rfl
        | true =>
          have := inv.head.closed k ok hk1 hlk e he hb
          rw [hon, getD_both hun] at this; cases this))
    unfold wpOp
    rw [hoi]
    simp only []
    have key : ∀ (v : Value) (w' : World), (C w' ∧ postAt posts i v w' ∧ (∀ j, j < n → j ≠ i → cons.contains (j, i) = false → Region.waitsFor .any l.toArray j i = false → ∀ u, postAt posts j u w → postAt posts j u w') ∧ ∀ q, ico.contains (q, i) = false → initAt inits q w → initAt inits q w') → wpAny P md l.toArray Q (m + (l.length - n)) (listed.setIfInBounds i true) (a.put o'.dst v) w' := fun v w' hR => by
      obtain ⟨hc', hpi, hkeep, hki⟩ := hR
      have hsz : listed.size = l.length := by rw [inv.head.size]; simp
      have hil : i < listed.size := by omega
      refine ih (U.erase i) _ _ _ (by rw [List.length_erase_of_mem ((hmem i hin).1 hun), hU]; rfl) (hnd.erase i) (fun k hk => hUn k (List.mem_of_mem_erase hk)) (fun k hk => ?_) ⟨inv.head.set hi hin, hc', by rw [put_defers]; exact inv.d, by rw [put_size]; exact inv.s, fun t ht => ?_, fun j hj hlj hcj => ?_, fun q hq => ?_⟩
      · rw [hnd.mem_erase_iff]
        by_cases hki : k = i
        · subst hki
          simp [hil]
        · rw [getD_set_ne true (Ne.symm hki)]
          rw [hmem k hk]
          exact ⟨fun h => ⟨hki, h⟩, fun h => h.2⟩
      · rw [put_ne]
        · exact inv.out t ht
        · intro e
          have h2 : headD l n t = true := by
            unfold headD
            exact List.any_eq_true.2 ⟨i, List.mem_range.2 hin, by rw [hdsti, e]; simp⟩
          rw [ht] at h2; cases h2
      · by_cases hji : j = i
        · subst hji
          unfold postD
          rw [hdsti]
          cases hd : o'.dst with
          | none => exact ⟨v, hpi⟩
          | some d =>
            have hdz : d < a.tmps.size := by rw [inv.s]; exact hz j d hj (by rw [hdsti, hd])
            show postAt posts j ((a.put (some d) v).tmps[d]?.getD undef) w'
            rw [put_same _ _ _ hdz]
            exact hpi
        · rw [getD_set_ne false (Ne.symm hji)] at hlj
          have hnc : (j, i) ∉ cons := fun hm => by
            have := hcj i hm
            simp [hil] at this
          have hold := inv.post j hj hlj (fun k hk => by
            have hki : k ≠ i := fun e => hnc (e ▸ hk)
            have := hcj k hk
            rwa [getD_set_ne false (Ne.symm hki)] at this)
          have hnb : cons.contains (j, i) = false := by simpa using hnc
          have hwf : Region.waitsFor .any l.toArray j i = false := by
            cases hw : Region.waitsFor .any l.toArray j i with
            | false => rfl
            | true =>
              obtain ⟨ok, hk1, e, he, hb, hon⟩ := Region.waitsFor_spec hw
              have := inv.head.closed j ok hk1 hlj e he (by rw [hmd]; exact hb)
              rw [hon, getD_both hun] at this; cases this
          unfold postD at hold ⊢
          have hne := (hpr j i hj hin).1 hji
          cases hd : dstAt l j with
          | none =>
            rw [hd] at hold
            obtain ⟨u, hu⟩ := hold
            exact ⟨u, hkeep j hj hji hnb hwf u hu⟩
          | some d =>
            rw [hd] at hold
            have hdi : o'.dst ≠ some d := fun e => by
              rcases hne with h | h
              · rw [hd] at h; cases h
              · exact h (by rw [hd, hdsti, e])
            show postAt posts j _ w'
            rw [put_ne _ _ _ _ hdi]
            exact hkeep j hj hji hnb hwf _ hold
      · have hnc : (q, i) ∉ ico := fun hm => by
          have := hq i hm
          simp [hil] at this
        exact hki q (by simpa using hnc) (inv.init q (fun k hk => by
          have hne : k ≠ i := fun e => hnc (e ▸ hk)
          have := hq k hk
          rwa [getD_set_ne false (Ne.symm hne)] at this))
    rcases hg with ⟨g1, g2⟩ | ⟨g1, g2⟩
    · rw [if_pos g1]
      exact .inl (wp_of_gives g2 key)
    · rw [if_neg (by rw [g1]; simp)]
      exact key _ _ g2
/-- **the law** -/
theorem wp_region_parH {l : List Oper} {id : Nat} {Q : Exit → Act → World → Prop} {a0 : Act} {w : World} (n : Nat) (gh cons ine ico : List (Nat × Nat)) (inits : List (World → Prop)) (C : World → Prop) (posts : List (Value → World → Prop)) (hm : P.follows .mixedOrders = true) (hB : parBG .any l n gh cons ine ico = true)
    (hz : ((List.range n).all fun j => match dstAt l j with | some d => decide (d < a0.tmps.size) | none => true) = true) (hC : C w.drew) (hI : ∀ p ∈ inits, p w.drew)
    (ho : ∀ i, i < n → asksH P l n gh cons ine ico inits C posts a0 i)
    (hq : ∀ (vs : Nat → Value) (w' : World), C w' → (∀ j, j < n → consumed cons j = false → match dstAt l j with | some _ => postAt posts j (vs j) w' | none => ∃ v, postAt posts j v w') → wpList P l.toArray Q (l.drop n) (putAll (l.take n) 0 vs a0) w') :
    (Code.region id l.toArray true).wp P Q a0 w := by
  have hz' : ∀ j d, j < n → dstAt l j = some d → d < a0.tmps.size := fun j d hj hd => by
    have := List.all_eq_true.1 hz j (List.mem_range.2 hj)
    rw [hd] at this
    simpa using this
  refine wp_region_any hm ?_
  have hnl : n ≤ l.length := by
    simp only [parBG, Bool.and_eq_true, decide_eq_true_eq] at hB
    exact hB.1.1.1.1.1.1.2
  have := par_anyH (md := .any) rfl (Q := Q) hB hz' ho (fun listed a w' inv hall => ?_) n (List.range n) (Array.replicate l.toArray.size false) a0 w.drew (by simp) List.nodup_range (fun i hi => List.mem_range.1 hi) (fun i hi => ?_) ⟨⟨by simp, fun j oj _ hl => (by rw [getD_replicate_false] at hl; cases hl), fun t _ ht => getD_in (by simpa using ht) (getD_replicate_false _ _)⟩, hC, rfl, rfl, fun _ _ => rfl, fun j _ hl => (by rw [getD_replicate_false] at hl; cases hl), fun q _ => by
    unfold initAt
    cases e : inits[q]? with
    | none => trivial
    | some p => exact hI p (List.mem_of_getElem? e)⟩
  · rw [show n + (l.length - n) = l.toArray.size by simp; omega] at this
    exact this
  · have e := putAll_eq (b := a) (l.take n) 0 (fun k => match dstAt l k with | some d => a.tmps[d]?.getD undef | none => undef) a0 inv.d inv.s (fun t ht => inv.out t (by
      unfold headD
      rw [List.any_eq_false]
      intro j hj hjt
      have hj' := List.mem_range.1 hj
      have hjl : j < l.length := by omega
      have hd : dstAt l j = some t := by simpa using hjt
      unfold dstAt at hd
      rw [List.getElem?_eq_getElem hjl] at hd
      exact ht l[j] (List.mem_take_iff_getElem.2 ⟨j, by omega, rfl⟩) (by simpa using hd))) (fun j o d hj hd => by
      have hjn : j < n := by
        have := (List.getElem?_eq_some_iff.1 hj).1
        simp at this; omega
      have hj2 : l[j]? = some o := by rw [List.getElem?_take_of_lt hjn] at hj; exact hj
      have : dstAt l j = some d := by unfold dstAt; rw [hj2]; exact hd
      simp only [Nat.zero_add, this])
    rw [← e]
    refine hq _ w' inv.c (fun j hj hcj => ?_)
    have hp := inv.post j hj (hall j hj) (fun i hi => by
      have : consumed cons j = true := by
        unfold consumed
        exact List.any_eq_true.2 ⟨(j, i), hi, by simp⟩
      rw [hcj] at this; cases this)
    unfold postD at hp
    cases hd : dstAt l j with
    | none => rw [hd] at hp; exact hp
    | some d => rw [hd] at hp; simp only [hd]; exact hp
  · have : i < (Array.replicate l.toArray.size false).size := by simp; omega
    constructor
    · intro _; exact List.mem_range.2 hi
    · intro _; exact getD_in this (getD_replicate_false _ _)
theorem wanted_off {o : Oper} {l : List Oper} {tm : Array Value} {g : Nat} {b c : Bool} {d : Tmp} (h : o.guard = some (g, b)) (hd : dstAt l g = some d) (he : tm[d]?.getD undef = .bool c) (hbc : (c != b) = true) : Region.wanted o (yielded l.toArray tm) = false := by
  have h1 : tm[d]? = some (.bool c) := by
    cases e : tm[d]? with
    | none => rw [e] at he; cases he
    | some v => rw [e] at he; simpa using he
  have h2 : (l.toArray[g]?).bind (·.dst) = some d := by
    unfold dstAt at hd
    simpa using hd
  have h3 : yielded l.toArray tm g = some c := by
    unfold yielded
    rw [h2]
    simp [h1]
  simp [Region.wanted, h, h3]
  cases b <;> cases c <;> simp_all
end
end Go.Proofs.Ytghgegghlefclaa
