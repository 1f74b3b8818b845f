/- Walks: a page's text; what is read of a page. -/
import Derived.Test.YtjcmnobfdidnkaaKA1
set_option linter.unusedVariables false
set_option linter.unusedSimpArgs false
set_option linter.unusedSectionVars false
namespace Go.Proofs.Ytjcmnobfdidnkaa
open Go.RowKit
set_option maxHeartbeats 1000000
set_option maxRecDepth 4000
theorem conv_page {P : Program} (src e dst : TypeId) (hs : P.underlying src = some (.slice e)) (he : P.underlying e = some (.int .u8)) (hd : P.underlying dst = some .string) (w : World) (b off len cap : Nat) (p : Pg) (hl : p.length = len)
    (h : ∀ j u, (pgCells p)[j]? = some u → w.cell? ⟨b, off + j, none⟩ = some u) : (convert src dst (.slice (some ⟨b, off, none⟩) len cap)).run P w = .ok (strV p) w := by
  have := run_convert_bytes_arg (P := P) w src e hs he b off len cap (p.map fun x => (x.toNat : Int)) (by simpa using hl) (fun i hi => by
    have : (pgCells p)[i]? = some (byteV (p[i]'(by omega))) := by unfold pgCells; rw [List.getElem?_map, List.getElem?_eq_getElem (by omega)]; rfl
    rw [h i _ this]
    simp only [byteV]
    rw [List.getD_eq_getElem?_getD, List.getElem?_map, List.getElem?_eq_getElem (by omega)]
    rfl) dst hd
  have e : strOfNums (p.map fun x => (x.toNat : Int)) = ⟨p.toArray⟩ := by
    have e1 : (p.map fun x => (x.toNat : Int)).map (fun n => UInt8.ofNat n.toNat) = p := by
      rw [List.map_map]
      have : (fun x : UInt8 => UInt8.ofNat ((x.toNat : Int)).toNat) = id := by funext x; simp
      show p.map (fun x : UInt8 => UInt8.ofNat ((x.toNat : Int)).toNat) = p
      rw [this, List.map_id]
    unfold strOfNums
    rw [e1]
  rw [this, e]
  rfl
theorem zeroPg (w : World) : (zeroValue 97).run Try.prog w = .ok (pgV Dk.zero) w := by kernel_rfl
theorem infoPg : (Try.prog.info? 97).map (·.size) = some 128 := by kernel_rfl
theorem undPg : Try.prog.underlying 97 = some (.array 128 5) := by kernel_rfl
theorem text_ok (p : Pg) (hp : p.length = 128) (w : World) : Calls Try.prog 50 #[pgV p] w fun e w' => e = .returned (strV p) ∧ w.alloc (.cells (pgCells p).toArray 97) = w' := by
  have hc : (convert 91 9 (.slice (some ⟨w.heap.size, 0, none⟩) 128 128)).run Try.prog (w.alloc (.cells (pgCells p).toArray 97)) = .ok (strV p) (w.alloc (.cells (pgCells p).toArray 97)) :=
    conv_page 91 5 9 Try.underlying91 Try.underlying5 Try.underlying9 _ _ 0 128 128 p hp (fun j u hu => by
      rw [World.cell?_alloc_at _ _ _ _ rfl]; simpa using hu)
  unfold pgV
  generalize (pgCells p).toArray = cs at *
  go_enter Try.func50, Try.ntmps50
  go_wp2_with fail
  go_ret
  exact ⟨rfl, rfl⟩
theorem pgc128 {p : Pg} (h : p.length = 128) : (pgCells p).toArray.size = 128 := by simp [pgCells, h]
theorem pgc1 (p : Pg) : ∀ u ∈ (pgCells p).toArray.toList, u.oneCell' = true := by simpa using pgCells_one p
theorem zero128 : (Dk.zero : Pg).length = 128 := by decide
section
variable {w : World} {ops : Array Oper} {rest : List Oper} {o : Oper} {a : Act} {Q : Exit → Act → World → Prop}
/-- a page's variable is made -/
theorem wpList_alloc_pg (hgd : o.guard = none) (ho : o.op = .alloc 97)
    (h : wpList Try.prog ops Q rest (a.put o.dst (.pointer (some ⟨w.heap.size, 0, none⟩))) (w.alloc (.cells (pgCells Dk.zero).toArray 97))) : wpList Try.prog ops Q (o :: rest) a w :=
  wpList_alloc_Z hgd 97 ho _ (zeroPg _) h
/-- a page is stored into a variable that was just made -/
theorem wpList_store_pgn (hgd : o.guard = none) (x y : Operand) (ho : o.op = .store 97 x y) {t : TypeId} {z p : Pg} (n : Nat) (hn : n = w.heap.size) (hx : a.eval x = .pointer (some ⟨n, 0, none⟩)) (hy : a.eval y = .agg (pgCells p).toArray) (hz : z.length = 128) (hp : p.length = 128)
    (h : wpList Try.prog ops Q rest (a.put o.dst undef) (w.alloc (.cells (pgCells p).toArray t))) : wpList Try.prog ops Q (o :: rest) a (w.alloc (.cells (pgCells z).toArray t)) := by
  subst hn
  exact wpList_store_new hgd 97 x y ho _ _ hx hy (by rw [pgc128 hz, pgc128 hp]) (by rw [pgc128 hp]; exact infoPg) (pgc1 p) t h
/-- a page is stored into a variable that is known -/
theorem wpList_store_pgb (hgd : o.guard = none) (x y : Operand) (ho : o.op = .store 97 x y) {t : TypeId} {z p : Pg} (b : Nat) (hx : a.eval x = .pointer (some ⟨b, 0, none⟩)) (hy : a.eval y = .agg (pgCells p).toArray) (hb : w.heap[b]? = some (.cells (pgCells z).toArray t (0, 0))) (hz : z.length = 128) (hp : p.length = 128)
    (h : wpList Try.prog ops Q rest (a.put o.dst undef) (putB w b (pgCells p).toArray t)) : wpList Try.prog ops Q (o :: rest) a w := by
  refine wpList_store_blk hgd 97 x y ho b 0 _ _ t hx hy hb (by rw [pgc128 hz, pgc128 hp]; omega) (by rw [pgc128 hp]; exact infoPg) (pgc1 p) ?_
  rw [splice_full (by simp [pgCells, hz, hp])]
  simpa using h
/-- a page is loaded -/
theorem wpList_load_pg (hgd : o.guard = none) (x : Operand) (ho : o.op = .load 97 x) {p : Pg} (b off : Nat) (hx : a.eval x = .pointer (some ⟨b, off, none⟩)) (hc : w.rangeAt b off (pgCells p)) (hp : p.length = 128)
    (h : wpList Try.prog ops Q rest (a.put o.dst (.agg (pgCells p).toArray)) w) : wpList Try.prog ops Q (o :: rest) a w :=
  wpList_load_mid hgd 97 x ho b off hx _ _ hc undPg rfl (by rw [pgCells_len, hp]; exact infoPg) h
theorem range_blk {b : Nat} {p : Pg} {t : TypeId} (hc : w.heap[b]? = some (.cells (pgCells p).toArray t (0, 0))) : w.rangeAt b 0 (pgCells p) := fun j v hv => by simp [World.cell?, hc, hv]
theorem rangeAt_kept {M : Nat → Prop} {w' : World} {b off : Nat} {cs : List Value} (h : w.rangeAt b off cs) (k : Kept M w w') (hM : ¬ M b) : w'.rangeAt b off cs := fun j v hv => k.cell (h j v hv) hM
theorem splice_pg {p s : Pg} {k : Nat} (h : k + s.length ≤ p.length) : splice (pgCells p) k (pgCells s) = pgCells (Dk.putAt p k s) := by
  unfold splice Dk.putAt pgCells
  simp
/-- a string is copied into a page's variable that was just made -/
theorem wpList_copy_pg (hgd : o.guard = none) (d s : Operand) (ho : o.op = .call { callee := .builtin .copy, args := #[d, s], argTypes := #[91, 9] }) {t : TypeId} {p str : Pg} (g off dLen dCap : Nat) (hgn : g = w.heap.size)
    (hd : a.eval d = .slice (some ⟨g, off, none⟩) dLen dCap) (hs : a.eval s = strV str) (hn : str.length ≤ dLen) (hfit : off + str.length ≤ p.length)
    (h : wpList Try.prog ops Q rest (a.put o.dst (.int .i64 str.length)) (w.alloc (.cells (pgCells (Dk.putAt p off str)).toArray t))) : wpList Try.prog ops Q (o :: rest) a (w.alloc (.cells (pgCells p).toArray t)) := by
  subst hgn
  have hsz : (⟨str.toArray⟩ : ByteArray).size = str.length := by simp [ByteArray.size]
  refine wpList_copy_str hgd d s 91 9 ho (elem := 5) Try.underlying91 (by kernel_rfl) w.heap.size off dLen dCap ⟨str.toArray⟩ hd hs (blk_new w _) (by omega) (by rw [hsz]; simpa [pgCells] using hfit) ?_
  have e : ((⟨str.toArray⟩ : ByteArray).data.toList.map fun b => Value.int .u8 b.toNat) = pgCells str := by simp [pgCells, byteV]
  have e2 : (pgCells p).toArray.toList = pgCells p := by simp
  rw [e, e2, splice_pg hfit, putB_alloc, hsz]
  exact h
end
end Go.Proofs.Ytjcmnobfdidnkaa
