/- The builtin copy, of a text or of a row, into a row of a block. -/
import Derived.Test.YtflapddkeeiieaaOwn
import Derived.Test.YtflapddkeeiieaaWord
namespace Go.Xr
open Go Go.RowKit
set_option linter.unusedVariables false

theorem setCells_heap (b : Nat) : ∀ (vs : List Value) (o : Nat) (w : World), (w.setCells b o vs).heap.size = w.heap.size
  | [], _, _ => rfl
  | v :: r, o, w => by rw [World.setCells, setCells_heap b r, World.size_setCell]

theorem bytes_len (s : ByteArray) : s.data.toList.length = s.size := Array.length_toList
theorem firstString (s : ByteArray) (n : Nat) : ((s.extract 0 n).data.map fun b => Value.int .u8 b.toNat).toList = bv (s.data.toList.take n) := by
  have e : (s.extract 0 n).data.toList = s.data.toList.take n := by simp
  rw [Array.toList_map, e]
  rfl

section
variable {P : Program} {ops : Array Oper} {Q : Exit → Act → World → Prop} {a : Act} {w : World} {K : Act → World → Prop} {rest : List Oper} {o : Oper}

theorem run_copy_str (w : World) (dT sT ty elem : TypeId) {b off : Nat} (dl dc : Nat) (s : ByteArray) (k : Nat) (hk : Nat.min s.size dl = k) {cs : List Value} (hb : Blk w b cs) (hu : P.underlying dT = some (.slice elem)) (hs : (P.info? elem).map (·.size) = some 1) (hl : off + k ≤ cs.length) :
    (Builtin.copy_ #[dT, sT] ty #[.slice (some ⟨b, off, none⟩) dl dc, .string s]).run P w = .ok (.int .i64 k) (w.setCells b off (bv (s.data.toList.take k))) := by
  have hk1 : k ≤ s.size := by rw [← hk]; exact Nat.min_le_left _ _
  have hlen : (bv (s.data.toList.take k)).length = k := by
    rw [bv_length, List.length_take, bytes_len]
    exact Nat.min_eq_left hk1
  have hst := run_storeCells_cells (P := P) b off (bv (s.data.toList.take k)) 0 w (fun j hj => by rw [hlen] at hj; rw [hb.cell, List.getElem?_eq_getElem (by omega)]; rfl) (fun j hj => hb.free _ (by omega)) (bv_one _)
  rw [Nat.add_zero] at hst
  cases hq : P.info? elem with
  | none => simp [hq] at hs
  | some i =>
    have hi : i.size = 1 := by simpa [hq] using hs
    have hsz : (sizeOf elem).run P w = .ok 1 w := by simp [sizeOf, typeInfo, hq, hi]
    have e0 : (#[dT, sT] : Array TypeId)[0]? = some dT := rfl
    have e1 : (#[Value.slice (some ⟨b, off, none⟩) dl dc, .string s] : Array Value)[0]? = some (Value.slice (some ⟨b, off, none⟩) dl dc) := rfl
    have e2 : (#[Value.slice (some ⟨b, off, none⟩) dl dc, .string s] : Array Value)[1]? = some (.string s) := rfl
    have hfs := firstString s k
    simp only [Builtin.copy_, e0, e1, e2, Sem.run_bind, run_underlying hu w, Result.andThen_ok, Builtin.lenOf, Sem.run_pure, hsz, hk, Builtin.firstCells, hfs, hst, goInt]

theorem wp_copy_str (dT sT elem : TypeId) (x y : Operand) (ho : o.op = .call { callee := .builtin .copy, args := #[x, y], argTypes := #[dT, sT] }) {b off : Nat} (dl dc : Nat) (s : ByteArray) (k : Nat) (hk : Nat.min s.size dl = k) (hx : a.eval x = .slice (some ⟨b, off, none⟩) dl dc) (hy : a.eval y = .string s)
    {cs : List Value} (hb : Blk w b cs) (hu : P.underlying dT = some (.slice elem)) (hs : (P.info? elem).map (·.size) = some 1) (hl : off + k ≤ cs.length)
    (h : ∀ w', Fr [b] w w' → Blk w' b (splice cs off (bv (s.data.toList.take k))) → w'.heap.size = w.heap.size → K (a.put o.dst (.int .i64 k)) w') : o.wp P a w K Q := by
  have hr := run_copy_str (P := P) w dT sT o.type elem dl dc s k hk hb hu hs hl
  have hk1 : k ≤ s.size := by rw [← hk]; exact Nat.min_le_left _ _
  have hlen : (bv (s.data.toList.take k)).length = k := by
    rw [bv_length, List.length_take, bytes_len]
    exact Nat.min_eq_left hk1
  obtain ⟨h2, h3⟩ := Blk.setCells (bv (s.data.toList.take k)) off hb (by omega)
  unfold Oper.wp execOp
  simp only [ho, resolve, invoke, builtin, Sem.run_bind, Sem.run_pure, Result.andThen_ok, List.map_toArray, List.map_cons, List.map_nil, hx, hy, hr]
  exact h _ h3 h2 (setCells_heap _ _ _ _)
theorem wpList_copy_str (hg : o.guard = none) (dT sT elem : TypeId) (x y : Operand) (ho : o.op = .call { callee := .builtin .copy, args := #[x, y], argTypes := #[dT, sT] }) {b off : Nat} (dl dc : Nat) (s : ByteArray) (k : Nat) (hk : Nat.min s.size dl = k) (hx : a.eval x = .slice (some ⟨b, off, none⟩) dl dc) (hy : a.eval y = .string s)
    {cs : List Value} (hb : Blk w b cs) (hu : P.underlying dT = some (.slice elem)) (hs : (P.info? elem).map (·.size) = some 1) (hl : off + k ≤ cs.length)
    (h : ∀ w', Fr [b] w w' → Blk w' b (splice cs off (bv (s.data.toList.take k))) → w'.heap.size = w.heap.size → wpList P ops Q rest (a.put o.dst (.int .i64 k)) w') : wpList P ops Q (o :: rest) a w :=
  wpList_plain hg fun _ hK => wp_copy_str dT sT elem x y ho dl dc s k hk hx hy hb hu hs hl fun w' h1 h2 h3 => hK _ _ (h w' h1 h2 h3)
end
end Go.Xr
