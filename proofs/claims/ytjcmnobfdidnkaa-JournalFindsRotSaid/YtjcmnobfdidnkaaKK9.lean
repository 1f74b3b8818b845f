/- The journal in plain words: a bit that rots. No program. -/
import Derived.Test.YtjcmnobfdidnkaaKD0
set_option linter.unusedVariables false
set_option linter.unusedSimpArgs false
set_option linter.unusedSectionVars false
namespace Go.Proofs.Ytjcmnobfdidnkaa
open Dk (Calm)
theorem xor_ne {x m : UInt8} (hm : m ≠ 0) : x ^^^ m ≠ x := fun h => hm (by
  have h2 : x ^^^ (x ^^^ m) = x ^^^ x := by rw [h]
  rwa [← UInt8.xor_assoc, UInt8.xor_self, UInt8.zero_xor] at h2)
theorem bit_ne (b : Nat) : (1 : UInt8) <<< UInt8.ofNat (b % 8) ≠ 0 := by
  have h : b % 8 < 8 := Nat.mod_lt _ (by omega)
  generalize b % 8 = k at h
  match k, h with
  | 0, _ => decide
  | 1, _ => decide
  | 2, _ => decide
  | 3, _ => decide
  | 4, _ => decide
  | 5, _ => decide
  | 6, _ => decide
  | 7, _ => decide
theorem flip_other {p : Pg} {b m : Nat} (h : m ≠ b / 8) : (Dk.flip p b)[m]? = p[m]? := by unfold Dk.flip; rw [List.getElem?_set_ne (Ne.symm h)]
theorem flip_here {p : Pg} {b : Nat} (h : b / 8 < p.length) : ∃ x z, p[b / 8]? = some x ∧ (Dk.flip p b)[b / 8]? = some z ∧ z ≠ x ∧ Dk.flip p b = p.set (b / 8) z := by
  refine ⟨p[b / 8], p[b / 8] ^^^ ((1 : UInt8) <<< UInt8.ofNat (b % 8)), List.getElem?_eq_getElem h, ?_, xor_ne (bit_ne b), ?_⟩
  · unfold Dk.flip; rw [List.getElem?_set_self h, List.getElem?_eq_getElem h]; rfl
  · unfold Dk.flip; rw [List.getElem?_eq_getElem h]; rfl
theorem getN_inj : ∀ {a b : Pg}, a.length = b.length → getN a = getN b → a = b := by
  intro a
  induction a with
  | nil => intro b h _; exact (List.length_eq_zero_iff.1 h.symm).symm
  | cons x a ih =>
    intro b h e
    cases b with
    | nil => cases h
    | cons y b =>
      have hx := x.toNat_lt
      have hy := y.toNat_lt
      simp only [getN] at e
      have h1 : x.toNat = y.toNat := by omega
      have h2 : getN a = getN b := by omega
      rw [UInt8.toNat_inj.1 h1, ih (by simpa using h) h2]
theorem bad_flip {p : Pg} {h : Hd} (hp : Hp p h) {b : Nat} (hb : b < 1024) : BadPg (Dk.flip p b) := by
  have hl := hp.len
  obtain ⟨x, z, e1, e2, e3, e4⟩ := flip_here (p := p) (b := b) (by omega)
  have ho := fun m => @flip_other p b m
  rcases hp with ⟨rfl, rfl⟩ | ⟨o, m, hm, rfl⟩
  · have hx : x = 0 := by
      unfold Dk.zero at e1
      rw [List.getElem?_replicate] at e1
      split at e1
      · exact (Option.some.inj e1).symm
      · cases e1
    subst hx
    refine ⟨zero_no e2 e3, ?_⟩
    have hz : ∀ k, k < 128 → k ≠ b / 8 → ((Dk.flip Dk.zero b)[k]?).getD 0 = 0 := fun k hk hne => by
      rw [ho k hne]
      unfold Dk.zero
      rw [List.getElem?_replicate, if_pos hk]; rfl
    unfold badP
    by_cases hc : b / 8 = 0
    · rw [hz 127 (by omega) (by omega)]
      rw [hc] at e2
      rw [e2]
      have : (z != (0 : UInt8)) = true := bne_iff_ne.2 e3
      simp [this]
    · rw [hz 0 (by omega) (fun q => hc q.symm)]
      simp
  · have hm0 := mark_ne hm
    have a0 := hpage_end h m (.inl rfl)
    have a1 := hpage_end h m (.inr rfl)
    constructor
    · by_cases hc : b / 8 = 0
      · exact zero_no (b := 127) (by rw [ho 127 (by omega)]; exact a1) hm0
      · exact zero_no (b := 0) (by rw [ho 0 (fun q => hc q.symm)]; exact a0) hm0
    · unfold badP
      by_cases hc : b / 8 = 0
      · rw [hc] at e1 e2
        have hxm : x = m := Option.some.inj (e1.symm.trans a0)
        rw [e2, ho 127 (by omega), a1]
        have : (z != m) = true := bne_iff_ne.2 (by rw [← hxm]; exact e3)
        simp [this]
      · by_cases hc2 : b / 8 = 127
        · rw [hc2] at e1 e2
          have hxm : x = m := Option.some.inj (e1.symm.trans a1)
          rw [e2, ho 0 (by omega), a0]
          have : (m != z) = true := bne_iff_ne.2 (by rw [← hxm]; exact e3.symm)
          simp [this]
        · have key : hsum (Dk.flip (hpage h m) b) ≠ getN (((Dk.flip (hpage h m) b).drop 22).take 4) := by
            have st : getN (((hpage h m).drop 22).take 4) = hsum (hpage h m) := by rw [hpage_sum, getN_le _ _ (hsum_lt _), hsum_hpage]
            have hfl : (Dk.flip (hpage h m) b).length = 128 := by rw [e4, List.length_set]; exact hl
            by_cases hs : 22 ≤ b / 8 ∧ b / 8 < 26
            · have h1 : hsum (Dk.flip (hpage h m) b) = hsum (hpage h m) := by
                rw [hsum_slices _ hfl, hsum_slices _ hl, e4, slice_set (by omega), slice_set (by omega)]
              rw [h1, ← st]
              intro e
              have := getN_inj (by rw [List.length_take, List.length_take, List.length_drop, List.length_drop, hl, hfl]) e
              have h2 : ((hpage h m).drop 22)[b / 8 - 22]? = ((Dk.flip (hpage h m) b).drop 22)[b / 8 - 22]? := by
                rw [← List.getElem?_take_of_lt (show b / 8 - 22 < 4 by omega), this, List.getElem?_take_of_lt (by omega)]
              rw [List.getElem?_drop, List.getElem?_drop, show 22 + (b / 8 - 22) = b / 8 by omega, e1, e2] at h2
              exact e3 (Option.some.inj h2).symm
            · have h1 : ((Dk.flip (hpage h m) b).drop 22).take 4 = ((hpage h m).drop 22).take 4 := by rw [e4, slice_set (by omega)]
              rw [h1, st, hsum_slices _ hfl, hsum_slices _ hl, e4]
              by_cases hlow : b / 8 < 22
              · rw [slice_set (a := 26) (by omega)]
                intro e
                have e9 := crc_seed (crc_lt _ _) (crc_lt _ _) e
                have hset : (((hpage h m).set (b / 8) z).drop 0).take 22 = (((hpage h m).drop 0).take 22).set (b / 8) z := by
                  rw [List.drop_zero, List.drop_zero, List.take_set]
                rw [hset] at e9
                exact crc_set (y := x) (by rw [List.drop_zero, List.getElem?_take_of_lt hlow]; exact e1) e3 e9
              · rw [slice_set (a := 0) (by omega)]
                intro e
                have hset : (((hpage h m).set (b / 8) z).drop 26).take 102 = (((hpage h m).drop 26).take 102).set (b / 8 - 26) z := by
                  rw [← List.take_set, List.drop_set, if_neg (by omega)]
                rw [hset] at e
                exact crc_set (y := x) (by rw [List.getElem?_take_of_lt (by omega), List.getElem?_drop, show 26 + (b / 8 - 26) = b / 8 by omega]; exact e1) e3 e
          have : (hsum (Dk.flip (hpage h m) b) != getN (((Dk.flip (hpage h m) b).drop 22).take 4)) = true := bne_iff_ne.2 key
          rw [this]; simp
section
variable {d : Dk} {h : Hd} {recs : List Pg} {K : Nat}
theorem rot_calm (c : Calm d) (i b : Int) : Calm (d.rot i b) := by
  refine ⟨c.wf.rot i b, ?_, fun k => ?_⟩
  · unfold Dk.rot; split
    · exact c.off
    · exact c.off
  · unfold Dk.rot; split
    · exact c.pn k
    · exact c.pn k
/-- the pages of the heads are heads, or none -/
def HdsOk' (e : Dk) : Prop := ∀ k, k < 2 → BadPg (e.now k) ∨ ∃ h1, Hp (e.now k) h1
/-- **a bit that rots**: the records are read, or the checksum tells -/
theorem Both.rot (s : Both d h recs K) (hf : h.Fits) (i b : Nat) (hi : i < d.n) (hb : b < 1024) (ht : d.trip = -1) :
    HdsOk' (d.rot i b) ∧ (jopenE (d.rot i b) = 7 ∨ Fit (d.rot i b) h recs K) := by
  have hr : d.rotok i b = true := Dk.rotok_iff.2 ⟨⟨by omega, by omega⟩, by omega, by omega⟩
  have c := rot_calm s.c (i : Int) (b : Int)
  have hn : (d.rot i b).n = d.n := Dk.n_rot _ _
  have hpg : ∀ k, k < d.n → (d.rot i b).pg k = if k = i then Dk.flip (d.pg k) b else d.pg k := fun k hk => by
    rw [Dk.rot_pg _ _ hr hk]
    by_cases e : k = i
    · rw [if_pos e, if_pos (by omega)]; rfl
    · rw [if_neg e, if_neg (by omega)]
  have n4 := s.f.n4
  have hfit := s.f.disk (d' := d.rot i b) hn (Nat.le_refl _)
  generalize he : d.rot (i : Int) (b : Int) = e at *
  have head : ∀ k, k < 2 → k ≠ i → Hp (e.pg k) h := fun k hk hne => by
    rw [hpg k (by omega), if_neg hne]
    rcases (show k = 0 ∨ k = 1 by omega) with rfl | rfl
    · exact s.p0
    · exact s.p1
  have bad : i < 2 → BadPg (e.pg i) := fun h2 => by
    rw [hpg i hi, if_pos rfl]
    rcases (show i = 0 ∨ i = 1 by omega) with rfl | rfl
    · exact bad_flip s.p0 hb
    · exact bad_flip s.p1 hb
  have hds : HdsOk' e := fun k hk => by
    rw [c.now]
    by_cases hki : k = i
    · subst hki; exact .inl (bad hk)
    · exact .inr ⟨_, head k hk hki⟩
  refine ⟨hds, ?_⟩
  by_cases h2 : i < 2
  · right
    have hby : jbytes e h = streamS recs := by
      rw [jbytes_pages s.c c hn h s.f.range (fun k hk h3 => by rw [hpg k hk, if_neg (by omega)]), s.b]
    refine ⟨c, hfit, hby, ?_⟩
    rcases (show i = 0 ∨ i = 1 by omega) with rfl | rfl
    · exact .inr ⟨head 1 (by omega) (by omega), .inl (bad h2)⟩
    · exact .inl ⟨head 0 (by omega) (by omega), .inl (bad h2)⟩
  · have hp0 := head 0 (by omega) (by omega)
    have hp1 := head 1 (by omega) (by omega)
    obtain ⟨x, z, e1, e2, e3, e4⟩ := flip_here (p := d.pg i) (b := b) (by rw [(s.c.wf.pg_len hi).1]; omega)
    have hbX : ∀ X, X < d.n * 128 → X ≠ i * 128 + b / 8 → e.byte X = d.byte X := fun X hX hne => by
      rw [c.byte, s.c.byte]
      unfold Dk.plate
      rw [hpg _ (by omega)]
      by_cases hk : X / 128 = i
      · rw [if_pos hk, flip_other (by omega)]
      · rw [if_neg hk]
    have hb0 : e.byte (i * 128 + b / 8) = z ∧ d.byte (i * 128 + b / 8) = x := by
      have q1 : (i * 128 + b / 8) / 128 = i := by omega
      have q2 : (i * 128 + b / 8) % 128 = b / 8 := by omega
      rw [c.byte, s.c.byte]
      unfold Dk.plate
      rw [q1, q2, hpg i hi, if_pos rfl, e1, e2]
      exact ⟨rfl, rfl⟩
    have hrg := s.f.range
    by_cases hin : d.jfirst h.bank * 128 ≤ i * 128 + b / 8 ∧ i * 128 + b / 8 < d.jfirst h.bank * 128 + h.size
    · left
      obtain ⟨F, hF⟩ : ∃ F, d.jfirst h.bank * 128 = F := ⟨_, rfl⟩
      have hj : e.jfirst h.bank = d.jfirst h.bank := (jfirst_n hn _).1
      have L1 : jbytes d h = (List.range h.size).map fun X => d.byte (F + X) := by rw [jbytes_bytes s.c.wf h hrg, hF]
      have L2 : jbytes e h = (jbytes d h).set (i * 128 + b / 8 - F) z := by
        rw [jbytes_bytes c.wf h (by rw [hj, hn]; exact hrg), hj, hF, L1]
        apply List.ext_getElem?
        intro k
        by_cases hk : k < h.size
        · rw [List.getElem?_map, List.getElem?_range hk]
          by_cases hkX : k = i * 128 + b / 8 - F
          · subst hkX
            rw [List.getElem?_set_self (by simpa using hk)]
            show some (e.byte (F + (i * 128 + b / 8 - F))) = _
            rw [show F + (i * 128 + b / 8 - F) = i * 128 + b / 8 by omega, hb0.1]
          · rw [List.getElem?_set_ne (fun q => hkX q.symm), List.getElem?_map, List.getElem?_range hk]
            show some (e.byte (F + k)) = some (d.byte (F + k))
            rw [hbX (F + k) (by omega) (by omega)]
        · rw [List.getElem?_eq_none (by simp; omega), List.getElem?_eq_none (by simp; omega)]
      have hcr : crc 0 (jbytes e h) ≠ h.sum := by
        rw [L2, s.f.sum, ← s.b]
        refine crc_set (y := x) ?_ e3
        rw [L1, List.getElem?_map, List.getElem?_range (by omega)]
        show some (d.byte (F + (i * 128 + b / 8 - F))) = _
        rw [show F + (i * 128 + b / 8 - F) = i * 128 + b / 8 by omega, hb0.2]
      have hld : jload e h = none := by
        unfold jload
        rw [if_neg (by have := hfit.bank; have := hfit.cap; omega), if_pos hcr]
      have r0 : readH (e.now 0) = (h, true) := by rw [c.now]; exact readH_hp hp0
      have r1 : readH (e.now 1) = (h, true) := by rw [c.now]; exact readH_hp hp1
      have hjn : jnew e = 0 := by unfold jnew; rw [r0, r1]; simp
      have hjh : jhead e = h := by unfold jhead; rw [hjn, r0]
      unfold jopenE
      rw [if_neg (by omega), c.off, if_neg (by simp), r0, if_neg (by simp), hjh, hld]
    · right
      have hby : jbytes e h = streamS recs := by
        rw [jbytes_same s.c.wf c.wf hn h hrg (fun X x1 x2 => hbX X (by omega) (by omega)), s.b]
      exact ⟨c, hfit, hby, .inl ⟨hp0, .inr (.inl hp1)⟩⟩
end
end Go.Proofs.Ytjcmnobfdidnkaa
