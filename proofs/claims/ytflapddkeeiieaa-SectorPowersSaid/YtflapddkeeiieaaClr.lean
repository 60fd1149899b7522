/- The builtin clear, of a row whose elements are of many cells. -/
import Derived.Test.YtflapddkeeiieaaCopy
namespace Go.Xr
open Go Go.RowKit
set_option linter.unusedVariables false

theorem zeroCells_rep {z u : Value} {sz : Nat} (hz : z.cells.toList = List.replicate sz u) (h0 : 0 < sz) (n : Nat) : (Builtin.zeroCells z.cells n).toList = List.replicate (n * sz) u := by
  have hs : z.cells.size = sz := by rw [← Array.length_toList, hz, List.length_replicate]
  apply List.ext_getElem
  · simp [Builtin.zeroCells, hs]
  · intro i h1 h2
    have hlt : i % z.cells.size < z.cells.size := Nat.mod_lt _ (by omega)
    have hg : z.cells[i % z.cells.size]! = u := by
      rw [getElem!_pos z.cells (i % z.cells.size) hlt, ← Array.getElem_toList]
      have := List.getElem_mem (l := z.cells.toList) (n := i % z.cells.size) (by rw [Array.length_toList]; exact hlt)
      have h3 : ∀ l : List Value, l = List.replicate sz u → ∀ x ∈ l, x = u := fun l e x hx => by rw [e] at hx; exact List.eq_of_mem_replicate hx
      exact h3 _ hz _ this
    simp [Builtin.zeroCells, hg]

section
variable {P : Program} {ops : Array Oper} {Q : Exit → Act → World → Prop} {a : Act} {w : World} {K : Act → World → Prop} {rest : List Oper} {o : Oper}

theorem run_clear_rep (w : World) (t e ty : TypeId) (i : TypeInfo) (z u : Value) (sz : Nat) (ht : P.underlying t = some (.slice e)) (hi : P.info? e = some i) (hz : i.zero = some z) (hzs : z.cells.toList = List.replicate sz u) (h0 : 0 < sz) (h1 : u.oneCell' = true)
    {b : Nat} {n c : Nat} (hn : 0 < n) {cs : List Value} (hb : Blk w b cs) (hl : n * sz ≤ cs.length) :
    (Builtin.clear_ #[t] ty #[.slice (some ⟨b, 0, none⟩) n c]).run P w = .ok (.tuple #[]) (w.setCells b 0 (List.replicate (n * sz) u)) := by
  have hst := run_storeCells_cells (P := P) b 0 (List.replicate (n * sz) u) 0 w (fun j hj => by rw [List.length_replicate] at hj; rw [hb.cell, List.getElem?_eq_getElem (by omega)]; rfl) (fun j hj => hb.free _ (by rw [List.length_replicate] at hj; omega)) (by intro v hv'; rw [List.eq_of_mem_replicate hv']; exact h1)
  simp only [Nat.add_zero] at hst
  have hv : ∀ w, (zeroValue e).run P w = .ok z w := fun w => by simp [zeroValue, typeInfo, hi, hz]
  have hzc := zeroCells_rep hzs h0 n
  obtain ⟨m, rfl⟩ : ∃ m, n = m + 1 := ⟨n - 1, by omega⟩
  simp [Builtin.clear_, run_underlying ht, hv, hzc, hst]

theorem wpList_clear (hg : o.guard = none) (t : TypeId) (x : Operand) (ho : o.op = .call { callee := .builtin .clear, args := #[x], argTypes := #[t] }) (e : TypeId) (i : TypeInfo) (z u : Value) (sz : Nat) (ht : P.underlying t = some (.slice e)) (hi : P.info? e = some i) (hz : i.zero = some z)
    (hzs : z.cells.toList = List.replicate sz u) (h0 : 0 < sz) (h1 : u.oneCell' = true) {v : Value} {n : Nat} {xs : List Value} {b : Nat} (hn : 0 < n) (hx : a.eval x = v) (ho1 : Xr.Own w sz v n xs (some b))
    (h : ∀ w', Fr [b] w w' → Xr.Own w' sz v n (List.replicate (n * sz) u) (some b) → w'.heap.size = w.heap.size → wpList P ops Q rest (a.put o.dst undef) w') : wpList P ops Q (o :: rest) a w := by
  refine wpList_plain hg fun _ hK => ?_
  rcases ho1.2 with ⟨_, _, h2⟩ | ⟨b', cap, cs, hB, hv, h3, h4, h5, h6, h7⟩
  · cases h2
  · cases hB
    have hle : n * sz ≤ cap * sz := Nat.mul_le_mul_right _ h3
    have hr := run_clear_rep (P := P) w t e o.type i z u sz ht hi hz hzs h0 h1 (c := cap) hn h5 (by omega)
    obtain ⟨h8, h9⟩ := Blk.setCells (List.replicate (n * sz) u) 0 h5 (by rw [List.length_replicate]; omega)
    unfold Oper.wp execOp
    simp only [ho, resolve, invoke, builtin, Sem.run_bind, Sem.run_pure, Result.andThen_ok, List.map_toArray, List.map_cons, List.map_nil, hx, hv, hr]
    refine hK _ _ (h _ h9 ⟨by rw [List.length_replicate], .inr ⟨b, cap, _, rfl, hv, h3, h4, h8, ?_, ?_⟩⟩ (setCells_heap _ _ _ _))
    · rw [splice_length _ _ _ (by rw [List.length_replicate]; omega)]; exact h6
    · unfold splice
      rw [List.take_zero, List.nil_append, List.take_append_of_le_length (by rw [List.length_replicate]; exact Nat.le_refl _), List.take_of_length_le (by rw [List.length_replicate]; exact Nat.le_refl _)]
end
end Go.Xr
