/- Arrays and slices that are built of parts, one cell each. -/
import Derived.Test.YtflapddkeeiieaaOwn
import Derived.Test.YtflapddkeeiieaaWord
namespace Go.Xr
open Go Go.RowKit
set_option linter.unusedVariables false

theorem one_cells {v : Value} (h : v.oneCell' = true) : v.cells = #[v] := by cases v <;> simp_all [Value.cells, Value.oneCell']

theorem fill_ones (place : Nat → Option (Nat × Nat)) (hp : ∀ i, place i = some (i, 1)) : ∀ (vs : List Value) (k : Nat) (z : List Value), (∀ v ∈ vs, v.oneCell' = true) → k + vs.length ≤ z.length →
    Instr.fill place z.toArray ((List.range' k vs.length).zip vs) = some (z.take k ++ vs ++ z.drop (k + vs.length)).toArray
  | [], k, z, _, _ => by simp [Instr.fill]
  | v :: vs, k, z, h1, hl => by
    simp only [List.length_cons] at hl
    have hv := one_cells (h1 v (by simp))
    rw [List.length_cons, List.range'_succ, List.zip_cons_cons, fill_step place z.toArray k k 1 v _ (hp k) (by rw [hv]; rfl) (by rw [List.size_toArray]; omega)]
    have e : splice z.toArray.toList k v.cells.toList = z.take k ++ (v :: z.drop (k + 1)) := by
      rw [hv]
      simp [splice]
    rw [e]
    have ih := fill_ones place hp vs (k + 1) (z.take k ++ (v :: z.drop (k + 1))) (fun u hu => h1 u (by simp [hu])) (by simp; omega)
    rw [ih]
    have hk : (z.take k).length = k := by simp; omega
    have e1 : (z.take k ++ (v :: z.drop (k + 1))).take (k + 1) = z.take k ++ [v] := by
      have := List.take_length_add_append (l₁ := z.take k) (l₂ := v :: z.drop (k + 1)) 1
      rw [hk] at this
      simpa using this
    have e2 : (z.take k ++ (v :: z.drop (k + 1))).drop (k + 1 + vs.length) = z.drop (k + (vs.length + 1)) := by
      have := List.drop_length_add_append (l₁ := z.take k) (l₂ := v :: z.drop (k + 1)) (1 + vs.length)
      rw [hk, ← Nat.add_assoc] at this
      rw [this, Nat.add_comm 1, List.drop_succ_cons, List.drop_drop]
      congr 1
      omega
    rw [e1, e2, List.append_assoc (z.take k)]
    rfl

theorem zip_of {ps : List (Nat × Value)} {n : Nat} (h : ps.map (·.1) = List.range n) : ps = (List.range' 0 (ps.map (·.2)).length).zip (ps.map (·.2)) := by
  have hn : (ps.map (·.2)).length = n := by
    have := congrArg List.length h
    simpa using this
  rw [hn, ← List.range_eq_range', ← h]
  clear h hn
  induction ps with
  | nil => rfl
  | cons p ps ih => rw [List.map_cons, List.map_cons, List.zip_cons_cons, ← ih]

theorem fill_all (place : Nat → Option (Nat × Nat)) (hp : ∀ i, place i = some (i, 1)) (ps : List (Nat × Value)) (n : Nat) (h : ps.map (·.1) = List.range n) (vs : List Value) (hvs : ps.map (·.2) = vs) (h1 : ∀ v ∈ vs, v.oneCell' = true) (z : Array Value) (hz : z.size = n) :
    Instr.fill place z ps = some vs.toArray := by
  subst hvs
  have hn : (ps.map (·.2)).length = n := by
    have := congrArg List.length h
    simpa using this
  have hf := fill_ones place hp (ps.map (·.2)) 0 z.toList h1 (by simp at hn ⊢; omega)
  rw [← zip_of h] at hf
  simp only [Array.toArray_toList] at hf
  rw [hf]
  have : z.toList.drop (0 + (ps.map (·.2)).length) = [] := List.drop_eq_nil_of_le (by simp at hn ⊢; omega)
  rw [this, List.take_zero, List.nil_append, List.append_nil]

section
variable {P : Program} {ops : Array Oper} {Q : Exit → Act → World → Prop} {a : Act} {w : World} {K : Act → World → Prop} {rest : List Oper} {o : Oper}

theorem wp_build_arr (t : TypeId) (ps : Array (Nat × Operand)) (ho : o.op = .build t ps) (n : Nat) (e : TypeId) (hu : P.underlying t = some (.array n e)) (i : TypeInfo) (z : Value) (hi : P.info? t = some i) (hz : i.zero = some z) (hzs : z.cells.size = n)
    (hes : (P.info? e).map (·.size) = some 1) (hidx : ps.toList.map (·.1) = List.range n) (vs : List Value) (hvs : ps.toList.map (fun p => a.eval p.2) = vs) (h1 : ∀ v ∈ vs, v.oneCell' = true)
    (h : K (a.put o.dst (.agg vs.toArray)) w) : o.wp P a w K Q := by
  cases hq : P.info? e with
  | none => simp [hq] at hes
  | some ie =>
    have hs1 : ie.size = 1 := by simpa [hq] using hes
    have hf := fill_all (fun i => some (i * 1, 1)) (by simp) (ps.map fun p => (p.1, a.eval p.2)).toList n (by rw [Array.toList_map, List.map_map]; exact hidx) vs (by rw [Array.toList_map, List.map_map]; exact hvs) h1 z.cells hzs
    unfold Oper.wp execOp
    simp only [ho, Instr.build, zeroValue, typeInfo, program, Sem.run_bind, Sem.run, Result.andThen_ok, hi, hz, run_underlying hu, Sem.run_pure, sizeOf, hq, hs1, hf]
    exact h
theorem wpList_build_arr (hg : o.guard = none) (t : TypeId) (ps : Array (Nat × Operand)) (ho : o.op = .build t ps) (n : Nat) (e : TypeId) (hu : P.underlying t = some (.array n e)) (i : TypeInfo) (z : Value) (hi : P.info? t = some i) (hz : i.zero = some z) (hzs : z.cells.size = n)
    (hes : (P.info? e).map (·.size) = some 1) (hidx : ps.toList.map (·.1) = List.range n) (vs : List Value) (hvs : ps.toList.map (fun p => a.eval p.2) = vs) (h1 : ∀ v ∈ vs, v.oneCell' = true)
    (h : wpList P ops Q rest (a.put o.dst (.agg vs.toArray)) w) : wpList P ops Q (o :: rest) a w :=
  wpList_plain hg fun _ hK => wp_build_arr t ps ho n e hu i z hi hz hzs hes hidx vs hvs h1 (hK _ _ h)

/-- '[]T{..}', one cell each. -/
theorem wp_buildSlice_ones (t : TypeId) (n : Nat) (ps : Array (Nat × Operand)) (ho : o.op = .buildSlice t n ps) (e : TypeId) (hu : P.underlying t = some (.slice e)) (i : TypeInfo) (z : Value) (hi : P.info? e = some i) (hz : i.zero = some z) (hzs : z.cells.size = 1)
    (hs : i.size = 1) (hn : n ≤ 16777216) (hn0 : 0 < n) (hidx : ps.toList.map (·.1) = List.range n) (vs : List Value) (hvs : ps.toList.map (fun p => a.eval p.2) = vs) (h1 : ∀ v ∈ vs, v.oneCell' = true)
    (h : Blk (w.alloc (.cells vs.toArray e)) w.heap.size vs → K (a.put o.dst (.slice (some ⟨w.heap.size, 0, none⟩) n n)) (w.alloc (.cells vs.toArray e))) : o.wp P a w K Q := by
  have hf := fill_all (fun i => some (i * 1, 1)) (by simp) (ps.map fun p => (p.1, a.eval p.2)).toList n (by rw [Array.toList_map, List.map_map]; exact hidx) vs (by rw [Array.toList_map, List.map_map]; exact hvs) h1 ((Array.range n).map fun k => z.cells[k % z.cells.size]!) (by simp)
  have h2 : ¬ (16777216 < n) := by omega
  have h3 : ¬ (n = 0) := by omega
  have hr : (Instr.buildSlice t n (ps.map fun p => (p.1, a.eval p.2))).run P w = .ok (.slice (some ⟨w.heap.size, 0, none⟩) n n) (w.alloc (.cells vs.toArray e)) := by
    simp only [Instr.buildSlice, run_underlying hu, sizeOf, typeInfo, Sem.run_bind, Result.andThen_ok, program, Sem.run, hi, Sem.run_pure, hs, Nat.mul_one]
    rw [if_neg (by omega), if_neg h3]
    simp only [zeroValue, typeInfo, program, Sem.run_bind, Sem.run, Result.andThen_ok, hi, hz, Sem.run_pure]
    simp only [Nat.mul_one, Array.toList_map] at hf
    simp [hf, newRow]
  unfold Oper.wp execOp
  simp only [ho, Sem.run_bind, Sem.run_pure, Result.andThen_ok, hr]
  exact h (Blk.alloc w vs e)
theorem wpList_buildSlice_ones (hg : o.guard = none) (t : TypeId) (n : Nat) (ps : Array (Nat × Operand)) (ho : o.op = .buildSlice t n ps) (e : TypeId) (hu : P.underlying t = some (.slice e)) (i : TypeInfo) (z : Value) (hi : P.info? e = some i) (hz : i.zero = some z) (hzs : z.cells.size = 1)
    (hs : i.size = 1) (hn : n ≤ 16777216) (hn0 : 0 < n) (hidx : ps.toList.map (·.1) = List.range n) (vs : List Value) (hvs : ps.toList.map (fun p => a.eval p.2) = vs) (h1 : ∀ v ∈ vs, v.oneCell' = true)
    (h : Blk (w.alloc (.cells vs.toArray e)) w.heap.size vs → wpList P ops Q rest (a.put o.dst (.slice (some ⟨w.heap.size, 0, none⟩) n n)) (w.alloc (.cells vs.toArray e))) : wpList P ops Q (o :: rest) a w :=
  wpList_plain hg fun _ hK => wp_buildSlice_ones t n ps ho e hu i z hi hz hzs hs hn hn0 hidx vs hvs h1 fun hb => hK _ _ (h hb)
end

section
variable {P : Program} {ops : Array Oper} {Q : Exit → Act → World → Prop} {a : Act} {w : World} {K : Act → World → Prop} {rest : List Oper} {o : Oper}
/-- '[]byte(s)': a slice of its own. -/
theorem wp_bytes_own (src dst e : TypeId) (x : Operand) (ho : o.op = .convert src dst x) (s : ByteArray) (hx : a.eval x = .string s) (hm : s.size ≤ maxLen)
    (hs : P.underlying src = some .string) (hd : P.underlying dst = some (.slice e)) (he : P.underlying e = some (.int .u8))
    (h : ∀ w' cap, Fr [] w w' → w.heap.size < w'.heap.size → Xr.Own w' 1 (.slice (some ⟨w.heap.size, 0, none⟩) s.size cap) s.size (bv s.data.toList) (some w.heap.size) →
      K (a.put o.dst (.slice (some ⟨w.heap.size, 0, none⟩) s.size cap)) w') : o.wp P a w K Q := by
  unfold Oper.wp execOp
  simp only [ho, hx, Sem.run_bind, run_bytes_of_string w src dst e s hs hd he, Result.andThen_ok, Sem.run_pure]
  have hge := grownCap_ge w s.size 0 e
  have hle := grownCap_le_maxLen w s.size 0 e hm
  refine h _ _ (((Fr.refl [] w).drew).alloc _) (by simp) ?_
  have hb : Blk (w.drew.alloc (.cells (bytesRow s (grownCap w s.size 0 e)) e ((bytesRow s (grownCap w s.size 0 e)).size, (bytesRow s (grownCap w s.size 0 e)).size + 1))) w.heap.size (bytesRow s (grownCap w s.size 0 e)).toList := by
    refine ⟨e, _, by rw [Array.toArray_toList]; exact heap_alloc_new w.drew _, fun i hi => ?_⟩
    rw [Array.length_toList] at hi
    have : ¬ ((bytesRow s (grownCap w s.size 0 e)).size ≤ i) := by omega
    simp [this]
  have hl : (bytesRow s (grownCap w s.size 0 e)).toList.length = grownCap w s.size 0 e := by
    rw [bytesRow_toList, List.length_append, bv_length, List.length_replicate]
    have : s.data.toList.length = s.size := Array.length_toList
    omega
  have ho1 := Xr.Own.blk (size := 1) (n := s.size) hb hge hle (by rw [hl, Nat.mul_one])
  have ht : (bytesRow s (grownCap w s.size 0 e)).toList.take (s.size * 1) = bv s.data.toList := by
    rw [bytesRow_toList, Nat.mul_one]
    have : (bv s.data.toList).length = s.size := by rw [bv_length]; exact Array.length_toList
    rw [← this]
    exact List.take_left
  rw [ht] at ho1
  exact ho1
theorem wpList_bytes_own (hg : o.guard = none) (src dst e : TypeId) (x : Operand) (ho : o.op = .convert src dst x) (s : ByteArray) (hx : a.eval x = .string s) (hm : s.size ≤ maxLen)
    (hs : P.underlying src = some .string) (hd : P.underlying dst = some (.slice e)) (he : P.underlying e = some (.int .u8))
    (h : ∀ w' cap, Fr [] w w' → w.heap.size < w'.heap.size → Xr.Own w' 1 (.slice (some ⟨w.heap.size, 0, none⟩) s.size cap) s.size (bv s.data.toList) (some w.heap.size) →
      wpList P ops Q rest (a.put o.dst (.slice (some ⟨w.heap.size, 0, none⟩) s.size cap)) w') : wpList P ops Q (o :: rest) a w :=
  wpList_plain hg fun _ hK => wp_bytes_own src dst e x ho s hx hm hs hd he fun w' cap h1 h2 h3 => hK _ _ (h w' cap h1 h2 h3)

/-- 'append(s, v)' of one element of one cell, both steps: the element is laid first, then appended. -/
theorem wpList_append1 {o1 o2 : Oper} (hg1 : o1.guard = none) (hg2 : o2.guard = none) (t : TypeId) (x s y : Operand) (ho1 : o1.op = .buildSlice t 1 #[(0, x)]) (ho2 : o2.op = .call { callee := .builtin .append, args := #[s, y], argTypes := #[t, t] })
    (e : TypeId) (i : TypeInfo) (z : Value) (bytes : Nat) (ht : P.underlying t = some (.slice e)) (hi : P.info? e = some i) (hz : i.zero = some z) (hsize : i.size = 1) (hby : i.bytes = bytes) (hzs : z.cells.size = 1)
    (u : Value) (hx : a.eval x = u) (hu : u.oneCell' = true) {v : Value} {n : Nat} {xs : List Value} {B : Option Nat} (hs : (a.put o1.dst (.slice (some ⟨w.heap.size, 0, none⟩) 1 1)).eval s = v) (hy : (a.put o1.dst (.slice (some ⟨w.heap.size, 0, none⟩) 1 1)).eval y = .slice (some ⟨w.heap.size, 0, none⟩) 1 1)
    (h : Xr.Own w 1 v n xs B) (h63 : n + 1 ≤ maxLen) (hbytes : (n + 1) * bytes ≤ 140737488355328)
    (hK : ∀ v' w' B', Xr.Own w' 1 v' (n + 1) (xs ++ [u]) B' → Fr B.toList w w' → (B' = B ∨ ∃ b, B' = some b ∧ w.heap.size ≤ b) → wpList P ops Q rest ((a.put o1.dst (.slice (some ⟨w.heap.size, 0, none⟩) 1 1)).put o2.dst v') w') : wpList P ops Q (o1 :: o2 :: rest) a w := by
  have huc := one_cells hu
  refine wpList_buildSlice_one hg1 t x ho1 e i z 1 [u] ht hi hz hsize (by rw [hx, huc]) rfl hzs (by decide) (by decide) (fun hb => ?_)
  have hn := h.keep ((Fr.refl [] w).alloc (.cells [u].toArray e)) (by simp)
  refine wpList_append hg2 s y t ho2 e i z 1 bytes ht hi hz hsize hby hzs (by decide) hs hn ⟨w.heap.size, 0, none⟩ 1 1 [u] hy rfl (hb.cells rfl) (by simpa using hu) h63 hbytes (fun v' w' B' h1 f1 hB => ?_)
  refine hK v' w' B' h1 ?_ ?_
  · exact (((Fr.refl B.toList w).alloc (.cells [u].toArray e))).trans' f1
  · rcases hB with hB | ⟨b, hB, hge⟩
    · exact .inl hB
    · exact .inr ⟨b, hB, by simp at hge; omega⟩
end

/-- An owned slice that has elements, by its cells. -/
theorem Own.opened {w : World} {size n : Nat} {v : Value} {xs : List Value} {B : Option Nat} (h : Xr.Own w size v n xs B) (hn : 0 < n) :
    ∃ b cap, B = some b ∧ v = .slice (some ⟨b, 0, none⟩) n cap ∧ n ≤ cap ∧ cap ≤ maxLen ∧ ∀ j, j < xs.length → w.cell? ⟨b, j, none⟩ = xs[j]? ∧ w.frozen? ⟨b, j, none⟩ = false := by
  rcases h.2 with ⟨_, h1, _⟩ | ⟨b, cap, cs, hB, hv, h1, h2, h3, h4, h5⟩
  · omega
  · refine ⟨b, cap, hB, hv, h1, h2, fun j hj => ⟨h.cellAt hB hj, h3.free j ?_⟩⟩
    rw [← h5, List.length_take] at hj
    omega
/-- One element is written. -/
theorem Own.blkOf {w : World} {v : Value} {n : Nat} {xs : List Value} {b : Nat} (h : Xr.Own w 1 v n xs (some b)) : ∃ cs, Blk w b cs ∧ n ≤ cs.length ∧ cs.take n = xs ∧
    ∀ w' cs', Blk w' b cs' → cs'.length = cs.length → Xr.Own w' 1 v n (cs'.take n) (some b) := by
  rcases h.2 with ⟨_, _, h1⟩ | ⟨b', cap, cs, hB, hv, h1, h2, h3, h4, h5⟩
  · cases h1
  · cases hB
    rw [Nat.mul_one] at h4 h5
    refine ⟨cs, h3, by omega, h5, fun w' cs' hb hl => ⟨by rw [List.length_take, hl, h4, Nat.mul_one]; omega, .inr ⟨b, cap, cs', rfl, hv, h1, h2, hb, by rw [hl, h4, Nat.mul_one], by rw [Nat.mul_one]⟩⟩⟩
/-- The cells of the block of an owned slice. -/
theorem Own.cells1 {w : World} {v : Value} {n : Nat} {xs cs : List Value} {b : Nat} (h : Xr.Own w 1 v n xs (some b)) (hb : Blk w b cs) : cs.take n = xs := by
  obtain ⟨cs', h1, _, h2, _⟩ := h.blkOf
  rw [Blk.eq hb h1]
  exact h2
/-- Blocks that were made since w. -/
def Fresh (w : World) (B : Option Nat) : Prop := ∀ b, B = some b → w.heap.size ≤ b
theorem Fresh.none (w : World) : Fresh w none := fun b h => by cases h
theorem Fresh.step {w w1 : World} {B B' : Option Nat} (h : Fresh w B) (f : Fr [] w w1) (hB : B' = B ∨ ∃ b, B' = some b ∧ w1.heap.size ≤ b) : Fresh w B' := by
  intro b hb
  rcases hB with rfl | ⟨b', h1, h2⟩
  · exact h b hb
  · rw [h1] at hb
    cases hb
    exact Nat.le_trans f.size h2
theorem Fresh.fr {w w1 w2 : World} {B : Option Nat} (h : Fresh w B) (f : Fr [] w w1) (g : Fr B.toList w1 w2) : Fr [] w w2 :=
  f.trans g (fun x hx => .inr (h x (by simpa using hx)))
theorem Fresh.notin {w : World} {B : Option Nat} (h : Fresh w B) {b : Nat} (hb : b < w.heap.size) : b ∉ B.toList := by
  intro hx
  have := h b (by simpa using hx)
  omega
/-- A text's byte. -/
theorem index_str {P : Program} (w : World) (t : TypeId) (s : ByteArray) (k : IntKind) (i : Int) (j : Nat) (h : P.underlying t = some .string) (hi : i = j) (hj : j < s.size) (d : UInt8) : (Instr.index t (.string s) (.int k i)).run P w = .ok (bt (s.data.toList.getD j d)) w := by
  subst hi
  have h0 : (0 : Int) ≤ (j : Int) := by omega
  have hjl : j < s.data.toList.length := by rw [Array.length_toList]; exact hj
  have e : s[j]? = some (s.data.toList.getD j d) := by
    have h1 : s[j]? = some s[j] := getElem?_pos s j hj
    rw [h1]
    congr 1
    rw [List.getD_eq_getElem?_getD, List.getElem?_eq_getElem hjl]
    rfl
  simp only [Instr.index, asIntOf, Sem.run_bind, run_underlying h, Sem.run_pure, Result.andThen_ok, h0, if_true, Int.toNat_natCast, e]
  rfl
end Go.Xr
