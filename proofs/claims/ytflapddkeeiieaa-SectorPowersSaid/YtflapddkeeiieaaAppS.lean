/- Append of a text's bytes to a slice of its own; a variable made of a value's cells. -/
import Derived.Test.YtflapddkeeiieaaCopy
import Derived.Test.YtflapddkeeiieaaSlice
import Derived.Lib.AppendStr
import Derived.Great.Ranges
namespace Go.Xr
open Go Go.RowKit
set_option linter.unusedVariables false
section
variable {P : Program} {ops : Array Oper} {Q : Exit → Act → World → Prop} {a : Act} {w : World} {K : Act → World → Prop} {rest : List Oper} {o : Oper}

theorem run_append_str_room (t u ty e : TypeId) (i : TypeInfo) (ht : P.underlying t = some (.slice e)) (hu : P.underlying u = some .string) (hi : P.info? e = some i) (hs1 : i.size = 1)
    {w : World} {b n cap : Nat} {cs : List Value} (hb : Blk w b cs) (s : ByteArray) (hroom : n + s.size ≤ cap) (hfit : n + s.size ≤ cs.length) :
    (Builtin.append_ #[t, u] ty #[.slice (some ⟨b, 0, none⟩) n cap, .string s]).run P w = .ok (.slice (some ⟨b, 0, none⟩) (n + s.size) cap) (w.setCells b n (bv s.data.toList)) := by
  have hlen : (bv s.data.toList).length = s.size := by rw [bv_length, bytes_len]
  have hst := run_storeCells_cells (P := P) b n (bv s.data.toList) 0 w (fun j hj => by rw [hlen] at hj; rw [hb.cell, List.getElem?_eq_getElem (by omega)]; rfl) (fun j hj => hb.free _ (by omega)) (bv_one _)
  rw [Nat.add_zero] at hst
  have hf := Lib.run_firstCells_string (P := P) w 1 s
  have e1 : Lib.strCells s = bv s.data.toList := rfl
  rw [e1] at hf
  simp [Builtin.append_, run_underlying ht, run_underlying hu, sizeOf, typeInfo, hi, hs1, Builtin.lenOf, hroom, hf, Addr.add_lit, hst]

theorem run_append_str (t u ty e : TypeId) (i : TypeInfo) (ht : P.underlying t = some (.slice e)) (hu : P.underlying u = some .string) (hi : P.info? e = some i) (hz : i.zero = some (bt 0)) (hs1 : i.size = 1) (hby : i.bytes = 1)
    {w : World} {v : Value} {n : Nat} {xs : List Value} {B : Option Nat} (h : Xr.Own w 1 v n xs B) (s : ByteArray) (h63 : n + s.size ≤ maxLen) (hbytes : n + s.size ≤ 140737488355328) :
    ∃ v' w' B', (Builtin.append_ #[t, u] ty #[v, .string s]).run P w = .ok v' w' ∧ Xr.Own w' 1 v' (n + s.size) (xs ++ bv s.data.toList) B' ∧ Fr B.toList w w' ∧ (B' = B ∨ ∃ b, B' = some b ∧ w.heap.size ≤ b) := by
  have hsl : (bv s.data.toList).length = s.size := by rw [bv_length, bytes_len]
  have hlen : (xs ++ bv s.data.toList).length = n + s.size := by rw [List.length_append, h.1, hsl, Nat.mul_one]
  rcases h.2 with ⟨rfl, rfl, rfl⟩ | ⟨b, cap, cs, rfl, rfl, hnc, hcm, hb, hcl, htake⟩
  · obtain ⟨v', w', hrun, r1, r2, _⟩ := Lib.run_append_own_string (P := P) w w.heap.size t u ty e i ht hu hi hz hs1 hby (.slice none 0 0) 0 [] (World.ownsRow_nil w _ e 1) s h63 hbytes (Nat.le_refl _)
    obtain rfl : xs = [] := List.eq_nil_of_length_eq_zero (by simpa using h.1)
    obtain ⟨B', hB, hge⟩ := own_of_row r1
    refine ⟨v', w', B', hrun, hB, Fr.of_grown r2, ?_⟩
    cases B' with
    | none => exact .inl rfl
    | some g => exact .inr ⟨g, rfl, hge g rfl⟩
  · rw [Nat.mul_one] at hcl htake
    by_cases hroom : n + s.size ≤ cap
    · have hfit : n + (bv s.data.toList).length ≤ cs.length := by rw [hsl, hcl]; exact hroom
      obtain ⟨h2, h3⟩ := Blk.setCells (bv s.data.toList) n hb hfit
      refine ⟨_, _, some b, run_append_str_room t u ty e i ht hu hi hs1 hb s hroom (by omega), ⟨by rw [Nat.mul_one]; exact hlen, .inr ⟨b, cap, _, rfl, rfl, hroom, hcm, h2, by rw [splice_length _ _ _ hfit, hcl, Nat.mul_one], ?_⟩⟩, h3, .inl rfl⟩
      unfold splice
      rw [Nat.mul_one, ← hlen, htake]
      exact List.take_left
    · have holds : ∀ j u, xs[j]? = some u → w.cell? ((⟨b, 0, none⟩ : Addr).add j) = some u := hb.cells (vs := xs) (by rw [List.drop_zero, h.1, Nat.mul_one]; exact htake)
      have hr := Lib.run_append_grow_string (P := P) w t u ty e i (bt 0) ht hu hi hz ⟨b, 0, none⟩ n cap xs (by rw [hs1]; exact h.1) holds s (by omega) (by unfold maxLen at h63; omega) (by rw [hby]; exact growslice_fits (by omega) (by omega))
      have hge := grownCap_ge w (n + s.size) cap e
      have hcm2 : grownCap w (n + s.size) cap e ≤ maxLen := grownCap_le_maxLen w (n + s.size) cap e h63
      refine ⟨_, _, _, hr, ?_, ((Fr.refl _ _).drew).alloc _, .inr ⟨w.heap.size, rfl, Nat.le_refl _⟩⟩
      have hB := Blk.allocArr w.drew (xs.toArray ++ (Lib.strCells s).toArray ++ Builtin.zeroCells (bt 0).cells (grownCap w (n + s.size) cap e - (n + s.size))) e
      have ho := Xr.Own.blk (size := 1) (n := n + s.size) (cap := grownCap w (n + s.size) cap e) hB hge hcm2 (by
        have hz1 : (bt 0).cells.size = 1 := rfl
        have hx := h.1
        rw [Array.length_toList]
        simp only [Array.size_append, List.size_toArray, size_zeroCells, hz1, Lib.strCells_length]
        omega)
      have e2 : ((xs.toArray ++ (Lib.strCells s).toArray ++ Builtin.zeroCells (bt 0).cells (grownCap w (n + s.size) cap e - (n + s.size))).toList).take ((n + s.size) * 1) = xs ++ bv s.data.toList := by
        simp only [Array.toList_append]
        rw [Nat.mul_one, ← hlen]
        exact List.take_left
      rw [e2] at ho
      exact ho

theorem wpList_append_str (hg : o.guard = none) (s x : Operand) (t u : TypeId) (ho : o.op = .call { callee := .builtin .append, args := #[s, x], argTypes := #[t, u] })
    (e : TypeId) (i : TypeInfo) (ht : P.underlying t = some (.slice e)) (hu : P.underlying u = some .string) (hi : P.info? e = some i) (hz : i.zero = some (bt 0)) (hs1 : i.size = 1) (hby : i.bytes = 1)
    {v : Value} {n : Nat} {xs : List Value} {B : Option Nat} (hs : a.eval s = v) (h : Xr.Own w 1 v n xs B) (r : ByteArray) (hx : a.eval x = .string r) (h63 : n + r.size ≤ maxLen) (hbytes : n + r.size ≤ 140737488355328)
    (hK : ∀ v' w' B', Xr.Own w' 1 v' (n + r.size) (xs ++ bv r.data.toList) B' → Fr B.toList w w' → (B' = B ∨ ∃ b, B' = some b ∧ w.heap.size ≤ b) → wpList P ops Q rest (a.put o.dst v') w') : wpList P ops Q (o :: rest) a w := by
  refine wpList_plain hg fun K hk => ?_
  obtain ⟨v', w', B', hr, h2, h3, h4⟩ := run_append_str (P := P) t u o.type e i ht hu hi hz hs1 hby h r h63 hbytes
  unfold Oper.wp execOp
  simp only [ho, resolve, invoke, builtin, Sem.run_bind, Sem.run_pure, Result.andThen_ok, List.map_toArray, List.map_cons, List.map_nil, hs, hx, hr]
  exact hk _ _ (hK v' w' B' h2 h3 h4)

/-- A variable that holds an aggregate: of the world no more is told. -/
theorem wpList_box (hg : o.guard = none) (t : TypeId) (x : Operand) (ho : o.op = .box t x) (vs : List Value) (hx : a.eval x = .agg vs.toArray)
    (h : ∀ w', Fr [] w w' → w.heap.size < w'.heap.size → Blk w' w.heap.size vs → wpList P ops Q rest (a.put o.dst (.pointer (some ⟨w.heap.size, 0, none⟩))) w') : wpList P ops Q (o :: rest) a w := by
  refine Great.wpList_boxTo hg t x ho o.dst rfl w.heap.size rfl vs.toArray (by rw [hx]; rfl) ?_
  exact h _ ((Fr.refl [] w).alloc _) (by simp) (Blk.alloc w vs t)
/-- A new variable of an aggregate's type: of the world no more is told. -/
theorem wpList_alloc_any (hg : o.guard = none) (t : TypeId) (ho : o.op = .alloc t) (i : TypeInfo) (z : Value) (size : Nat) (hi : P.info? t = some i) (hz : i.zero = some z) (hzs : z.cells.size = size)
    (h : ∀ (zs : List Value) (w' : World), zs.length = size → zs = z.cells.toList → Fr [] w w' → w.heap.size < w'.heap.size → Blk w' w.heap.size zs → wpList P ops Q rest (a.put o.dst (.pointer (some ⟨w.heap.size, 0, none⟩))) w') : wpList P ops Q (o :: rest) a w :=
  wpList_alloc_agg hg t ho i z size hi hz hzs fun zs h1 h2 hb => h zs _ h1 h2 ((Fr.refl [] w).alloc _) (by simp) hb
/-- 'make([]T, n)', elements of one cell: a block of its own. -/
theorem wpList_make_blk (hg : o.guard = none) (t : TypeId) (x y : Operand) (ho : o.op = .makeSlice t x y) (l c : Nat) (kl kc : IntKind) (hx : a.eval x = .int kl l) (hy : a.eval y = .int kc c) (e : TypeId) (i : TypeInfo) (z : Value) (bytes : Nat) (ht : P.underlying t = some (.slice e)) (hi : P.info? e = some i) (hz : i.zero = some z)
    (hsize : i.size = 1) (hby : i.bytes = bytes) (hz1 : z.oneCell' = true) (hlc : l ≤ c) (hm : c ≤ 9223372036854775807) (hb : bytes * c ≤ 281474976710656)
    (h : ∀ w', Fr [] w w' → w.heap.size < w'.heap.size → Blk w' w.heap.size (List.replicate c z) → wpList P ops Q rest (a.put o.dst (.slice (some ⟨w.heap.size, 0, none⟩) l c)) w') : wpList P ops Q (o :: rest) a w := by
  have hzc := one_cells hz1
  refine wpList_make hg t x y ho l c kl kc hx hy e i z z 1 bytes ht hi hz hsize hby (by rw [hzc]; rfl) (by decide) hlc hm hb (fun hb1 => ?_)
  refine h _ ((Fr.refl [] w).alloc _) (by simp) ?_
  rw [Nat.mul_one] at hb1 ⊢
  exact hb1
end
end Go.Xr
