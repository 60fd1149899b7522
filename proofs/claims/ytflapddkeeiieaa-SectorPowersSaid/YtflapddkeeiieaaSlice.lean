/- Slices cut out of slices: elements of one cell. -/
import Derived.Test.YtflapddkeeiieaaBuild
namespace Go.Xr
open Go Go.RowKit
set_option linter.unusedVariables false
section
variable {P : Program} {ops : Array Oper} {Q : Exit → Act → World → Prop} {a : Act} {w : World} {K : Act → World → Prop} {rest : List Oper} {o : Oper}

theorem elem_of {t e : TypeId} (ht : P.underlying t = some (.slice e)) : P.elem t = e := by simp [Program.elem, ht]

/-- 's[l:h]'. -/
theorem wp_slice_lh (t : TypeId) (x lo hi : Operand) (ho : o.op = .slice t x (some lo) (some hi) none) {b off n c : Nat} (hx : a.eval x = .slice (some ⟨b, off, none⟩) n c) (kl kh : IntKind) (li hi' : Int) (l h : Nat) (hlo : a.eval lo = .int kl li) (hhi : a.eval hi = .int kh hi') (hl : li = l) (hh : hi' = h)
    (h1 : l ≤ h) (h2 : h ≤ c) (h3 : l < c) (e : TypeId) (ht : P.underlying t = some (.slice e)) (hs : (P.info? e).map (·.size) = some 1)
    (hK : K (a.put o.dst (.slice (some ⟨b, off + l, none⟩) (h - l) (c - l))) w) : o.wp P a w K Q := by
  subst hl
  subst hh
  cases hq : P.info? e with
  | none => simp [hq] at hs
  | some i =>
    have hs1 : i.size = 1 := by simpa [hq] using hs
    have he := elem_of ht
    have hr1 := run_sliceAt_slice (P := P) w t (.slice (some ⟨b, off, none⟩) n c) (some (.int kl l)) (some (.int kh h)) none (by rw [he]; exact ht)
    have hr2 := run_slice_lh (P := P) w t (some ⟨b, off, none⟩) n c (by rw [he]; exact ht) kl kh l h (by omega) (by omega) (by omega)
    have hsz : (sizeOf (P.elem t)).run P w = .ok 1 w := by rw [he]; simp [sizeOf, typeInfo, hq, hs1]
    have hv : sliced (some ⟨b, off, none⟩) l h c 1 = .slice (some ⟨b, off + l, none⟩) (h - l) (c - l) := by
      unfold sliced
      rw [if_neg (by omega), Nat.mul_one]
      unfold Addr.add
      by_cases h0 : l = 0
      · subst h0; rfl
      · simp [h0]
    have hr : (Instr.sliceAt t (.slice (some ⟨b, off, none⟩) n c) (some (.int kl l)) (some (.int kh h)) none).run P w = .ok (.slice (some ⟨b, off + l, none⟩) (h - l) (c - l)) w := by
      rw [hr1, hr2, hsz]
      simp only [Result.andThen_ok, Int.toNat_natCast, hv]
    unfold Oper.wp execOp
    simp only [ho, Option.map_some, Option.map_none, hx, hlo, hhi, Sem.run_bind, hr, Result.andThen_ok, Sem.run_pure]
    exact hK
theorem wpList_slice_lh (hg : o.guard = none) (t : TypeId) (x lo hi : Operand) (ho : o.op = .slice t x (some lo) (some hi) none) {b off n c : Nat} (hx : a.eval x = .slice (some ⟨b, off, none⟩) n c) (kl kh : IntKind) (li hi' : Int) (l h : Nat) (hlo : a.eval lo = .int kl li) (hhi : a.eval hi = .int kh hi') (hl : li = l) (hh : hi' = h)
    (h1 : l ≤ h) (h2 : h ≤ c) (h3 : l < c) (e : TypeId) (ht : P.underlying t = some (.slice e)) (hs : (P.info? e).map (·.size) = some 1)
    (hK : wpList P ops Q rest (a.put o.dst (.slice (some ⟨b, off + l, none⟩) (h - l) (c - l))) w) : wpList P ops Q (o :: rest) a w :=
  wpList_plain hg fun _ hk => wp_slice_lh t x lo hi ho hx kl kh li hi' l h hlo hhi hl hh h1 h2 h3 e ht hs (hk _ _ hK)

/-- 'make([]T, l, c)', elements of one cell: a slice of its own; of the world no more is told. -/
theorem wpList_make1 (hg : o.guard = none) (t : TypeId) (x y : Operand) (ho : o.op = .makeSlice t x y) (l c : Nat) (kl kc : IntKind) (hx : a.eval x = .int kl l) (hy : a.eval y = .int kc c) (e : TypeId) (i : TypeInfo) (z : Value) (bytes : Nat) (ht : P.underlying t = some (.slice e)) (hi : P.info? e = some i) (hz : i.zero = some z)
    (hsize : i.size = 1) (hby : i.bytes = bytes) (hz1 : z.oneCell' = true) (hlc : l ≤ c) (hm : c ≤ 9223372036854775807) (hb : bytes * c ≤ 281474976710656)
    (h : ∀ w', Fr [] w w' → w.heap.size < w'.heap.size → Xr.Own w' 1 (.slice (some ⟨w.heap.size, 0, none⟩) l c) l (List.replicate l z) (some w.heap.size) → wpList P ops Q rest (a.put o.dst (.slice (some ⟨w.heap.size, 0, none⟩) l c)) w') : wpList P ops Q (o :: rest) a w := by
  have hzc := one_cells hz1
  refine wpList_make hg t x y ho l c kl kc hx hy e i z z 1 bytes ht hi hz hsize hby (by rw [hzc]; rfl) (by decide) hlc hm hb (fun hb1 => ?_)
  refine h _ ((Fr.refl [] w).alloc _) (by simp) ?_
  have ho1 := Xr.Own.blk (size := 1) (n := l) (cap := c) hb1 hlc (by unfold maxLen; omega) (by rw [List.length_replicate])
  rw [Nat.mul_one, List.take_replicate, Nat.mul_one, Nat.min_eq_left hlc] at ho1
  rw [Nat.mul_one]
  exact ho1

/-- 'string(b)' of a slice of its own, nil too. -/
theorem wp_string_of_own (src dst e : TypeId) (x : Operand) (ho : o.op = .convert src dst x) {v : Value} {n : Nat} {l : List UInt8} {B : Option Nat} (hx : a.eval x = v) (hv : Xr.Own w 1 v n (bv l) B)
    (hs : P.underlying src = some (.slice e)) (he : P.underlying e = some (.int .u8)) (hd : P.underlying dst = some .string)
    (h : K (a.put o.dst (.string ⟨l.toArray⟩)) w) : o.wp P a w K Q := by
  have hl := hv.1
  rw [bv_length, Nat.mul_one] at hl
  rcases hv.2 with ⟨rfl, h0, _⟩ | ⟨b, cap, cs, _, rfl, h1, h2, h3, h4, h5⟩
  · obtain rfl : l = [] := List.eq_nil_of_length_eq_zero (by omega)
    have hr : (convert src dst (.slice none 0 0)).run P w = .ok (.string ⟨#[]⟩) w := by
      simp [convert, run_underlying hs, run_underlying hd, run_underlying he, Conv.bytesToString]
      rfl
    unfold Oper.wp execOp
    simp only [ho, hx, Sem.run_bind, hr, Result.andThen_ok, Sem.run_pure]
    exact h
  · exact wp_string_of_bytes src dst e x ho n cap hx h3 l hl (by rw [List.drop_zero, hl, ← h5, Nat.mul_one]) hs he hd h
theorem wpList_string_of_own (hg : o.guard = none) (src dst e : TypeId) (x : Operand) (ho : o.op = .convert src dst x) {v : Value} {n : Nat} {l : List UInt8} {B : Option Nat} (hx : a.eval x = v) (hv : Xr.Own w 1 v n (bv l) B)
    (hs : P.underlying src = some (.slice e)) (he : P.underlying e = some (.int .u8)) (hd : P.underlying dst = some .string)
    (h : wpList P ops Q rest (a.put o.dst (.string ⟨l.toArray⟩)) w) : wpList P ops Q (o :: rest) a w :=
  wpList_plain hg fun _ hk => wp_string_of_own src dst e x ho hx hv hs he hd (hk _ _ h)
end
end Go.Xr
