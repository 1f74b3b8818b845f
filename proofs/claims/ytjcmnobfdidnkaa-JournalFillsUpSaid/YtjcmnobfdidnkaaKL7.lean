/- What JournalFillsUp's walk shares: an Append that succeeds puts the records into memory that is new. -/
import Derived.Test.YtjcmnobfdidnkaaKL5
set_option linter.unusedVariables false
set_option linter.unusedSimpArgs false
set_option linter.unusedSectionVars false
namespace Go.Proofs.Ytjcmnobfdidnkaa
open Go.RowKit
set_option maxHeartbeats 2000000
set_option maxRecDepth 4000
def lenV : Value → Nat
  | .slice _ n _ => n
  | _ => 0
section
variable {w w' : World} {J D G B n K : Nat} {L : List Pg}
theorem gapp_fresh (g : GJ w J D G B L n K) (hK : K ≤ 700000000000) (x : Pg) (hE : rappE (capN n) L x = 0) :
    Calls Try.prog 24 #[.pointer (some ⟨J, 0, none⟩), .string ⟨x.toArray⟩] w fun e w' => e = .returned (.tuple #[.int .i64 L.length, .int .i64 0]) ∧ GJ w' J D G B (L ++ [x]) n (K + 1) ∧ Kept (InJ J D G B) w w' ∧
      ∀ (O : Option Nat) w'', (∀ g, O = some g → g < w.heap.size ∧ ¬ InJ J D G B g) → Kept (fun i => some i = O) w' w'' → GJ w'' J D G B (L ++ [x]) n (K + 1) := by
  obtain ⟨j, h1, h2⟩ := g
  have hc : j.d.jcap = capN n := by unfold Dk.jcap Dk.jp capN; rw [h2.n]
  rcases h2.norm.app hK x with ⟨t1, t2, t3, t4, t5⟩ | ⟨_, _, _, t⟩
  · rw [hc] at t1 t3
    have hE0 : j.appE x = 0 := t1.trans hE
    have hL : rappL (capN n) L x = L ++ [x] := by unfold rappL; rw [if_pos hE]
    rw [hL] at t3
    have gg : Going (j.app x) (L ++ [x]) n (K + 1) := ⟨t3, t4.trans h2.n, t5 h2.trip⟩
    refine (append_fresh j x hK h2.norm.both.f hE0 w h1).mono ?_
    rintro e w' ⟨rfl, q1, q2, a8, n8, cap8, q3, q4⟩
    rw [h2.norm.recs]
    refine ⟨rfl, ⟨_, q1, gg⟩, q2, fun O w'' hO k => ⟨_, ?_, gg⟩⟩
    have hn : ∀ i, InJ J D G B i → ¬ some i = O := fun i hi e => (hO i e.symm).2 hi
    have p := JS.p q1
    obtain ⟨a, cap, e1, e2⟩ := JS.ex q1
    have e3 : w'.cell? ⟨J, 6, none⟩ = some (.slice a (j.app x).recs.length cap) := cell_blk e1 6 _ rfl
    rw [e3] at q3
    simp only [Option.some.injEq, Value.slice.injEq] at q3
    obtain ⟨ea, _, ec⟩ := q3
    subst ea; subst ec
    refine ⟨p.kept k (hn _ (.inr (.inl rfl))) (hn _ (.inr (.inr (.inl rfl)))) (hn _ (.inr (.inr (.inr rfl)))), JS.ne q1, a, cap, k.blk e1 (hn _ (.inl rfl)), ?_⟩
    obtain ⟨a1, cap1, f1, f2, f3, f4⟩ := e2
    simp only [Value.slice.injEq] at f1
    obtain ⟨ea1, _, ec1⟩ := f1
    subst ea1; subst ec1
    refine ⟨a, cap, rfl, f2, f3, ?_⟩
    rcases f4 with f4 | ⟨b, off, f5, f6⟩
    · exact .inl f4
    · refine .inr ⟨b, off, f5, fun i y hy => ?_⟩
      obtain ⟨g1, cs, g2, g3, g4⟩ := f6 i y hy
      exact ⟨g1, cs, g2, g3, fun jj u hu => k.cell (g4 jj u hu) (fun e => by have := (hO _ e.symm).1; have := q4 b off f5; simp only at *; omega)⟩
  · exact absurd h2.trip t.trip
/-- the room, when the disk is opened by another journal -/
theorem groom2 {J2 K2 : Nat} {L2 : List Pg} (g : GJ w J D G B L n K) (g2 : GJ w' J2 D G B L2 n K2) (k : Kept (InD D G B) w w') : Calls Try.prog 20 #[.pointer (some ⟨J, 0, none⟩)] w' fun e w'' => e = .returned (.int .i64 ((capN n : Int) - (streamS L).length)) ∧ ∃ n, w'' = w'.drewN n := by
  have hl := g.lens
  obtain ⟨j, h1, h2⟩ := g
  obtain ⟨j2, h3, h4⟩ := g2
  have hc : j2.d.jcap = capN n := by unfold Dk.jcap Dk.jp capN; rw [h4.n]
  have hs := h2.norm.both.f.size
  rw [h2.norm.recs] at hs
  have h5 := h4.norm.both.f.n4
  have := room_ok w' (JS.disk h1 (JS.p h3) k) (by omega) (by omega)
  rw [hc, hs] at this
  exact this
theorem gfull (g : GJ w J D G B L n K) (hK : K ≤ 700000000000) (hr : (capN n : Int) - (streamS L).length < 2) : Calls Try.prog 24 #[.pointer (some ⟨J, 0, none⟩), .string ⟨#[]⟩] w fun e w' => e = .returned (.tuple #[.int .i64 0, .int .i64 12]) ∧ GJ w' J D G B L n (K + 1) ∧ Kept (InJ J D G B) w w' := by
  have hE : rappE (capN n) L [] = 12 := by unfold rappE; rw [if_neg (by simp), if_pos (by simp; omega)]
  have h := gapp g hK []
  have hI : rappI (capN n) L [] = 0 := by unfold rappI; rw [hE]; rfl
  have hL : rappL (capN n) L [] = L := by unfold rappL; rw [hE]; rfl
  rw [hE, hI, hL] at h
  exact h
end
/-- the text that is put in -/
theorem fill_app {m : Nat} {L : List Pg} {x : Pg} (h : (streamS L).length + (2 + x.length) ≤ capN m) (hx : x.length ≤ 300) : rappE (capN m) L x = 0 := by
  unfold rappE
  rw [if_neg (by omega), if_neg (by omega)]
theorem stream_snoc (L : List Pg) (x : Pg) : (streamS (L ++ [x])).length = (streamS L).length + (2 + x.length) := by
  have h := used_len (L ++ [x]) L.length x (by simp)
  rw [List.take_of_length_le (by simp), List.take_left] at h
  exact h
theorem stream_two (L : List Pg) : 2 * L.length ≤ (streamS L).length := by
  induction L with
  | nil => simp
  | cons x l ih =>
    show 2 * (l.length + 1) ≤ (recB x ++ streamS l).length
    rw [List.length_append]
    have : (recB x).length = x.length + 2 := rfl
    omega
end Go.Proofs.Ytjcmnobfdidnkaa
