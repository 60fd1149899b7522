/- 's[lo:]'. -/
import Derived.Test.YtflapddkeeiieaaSlice
namespace Go.Xr
open Go Go.RowKit
set_option linter.unusedVariables false
section
variable {P : Program} {ops : Array Oper} {Q : Exit → Act → World → Prop} {a : Act} {w : World} {K : Act → World → Prop} {rest : List Oper} {o : Oper}

theorem wp_slice_l (t : TypeId) (x lo : Operand) (ho : o.op = .slice t x (some lo) none none) {b off n c : Nat} (hx : a.eval x = .slice (some ⟨b, off, none⟩) n c) (kl : IntKind) (li : Int) (l : Nat) (hlo : a.eval lo = .int kl li) (hl : li = l)
    (h1 : l ≤ n) (h3 : l < c) (e : TypeId) (ht : P.underlying t = some (.slice e)) (hs : (P.info? e).map (·.size) = some 1)
    (hK : K (a.put o.dst (.slice (some ⟨b, off + l, none⟩) (n - l) (c - l))) w) : o.wp P a w K Q := by
  subst hl
  cases hq : P.info? e with
  | none => simp [hq] at hs
  | some i =>
    have hs1 : i.size = 1 := by simpa [hq] using hs
    have he := elem_of ht
    have hr1 := run_sliceAt_slice (P := P) w t (.slice (some ⟨b, off, none⟩) n c) (some (.int kl l)) none none (by rw [he]; exact ht)
    have hr2 := run_slice_l (P := P) w t (some ⟨b, off, none⟩) n c (by rw [he]; exact ht) kl l (by omega) (by omega)
    have hsz : (sizeOf (P.elem t)).run P w = .ok 1 w := by rw [he]; simp [sizeOf, typeInfo, hq, hs1]
    have hv : sliced (some ⟨b, off, none⟩) l n c 1 = .slice (some ⟨b, off + l, none⟩) (n - l) (c - l) := by
      unfold sliced
      rw [if_neg (by omega), Nat.mul_one]
      unfold Addr.add
      by_cases h0 : l = 0
      · subst h0; rfl
      · simp [h0]
    have hr : (Instr.sliceAt t (.slice (some ⟨b, off, none⟩) n c) (some (.int kl l)) none none).run P w = .ok (.slice (some ⟨b, off + l, none⟩) (n - l) (c - l)) w := by
      rw [hr1, hr2, hsz]
      simp only [Result.andThen_ok, Int.toNat_natCast, hv]
    unfold Oper.wp execOp
    simp only [ho, Option.map_some, Option.map_none, hx, hlo, Sem.run_bind, hr, Result.andThen_ok, Sem.run_pure]
    exact hK
theorem wpList_slice_l (hg : o.guard = none) (t : TypeId) (x lo : Operand) (ho : o.op = .slice t x (some lo) none none) {b off n c : Nat} (hx : a.eval x = .slice (some ⟨b, off, none⟩) n c) (kl : IntKind) (li : Int) (l : Nat) (hlo : a.eval lo = .int kl li) (hl : li = l)
    (h1 : l ≤ n) (h3 : l < c) (e : TypeId) (ht : P.underlying t = some (.slice e)) (hs : (P.info? e).map (·.size) = some 1)
    (hK : wpList P ops Q rest (a.put o.dst (.slice (some ⟨b, off + l, none⟩) (n - l) (c - l))) w) : wpList P ops Q (o :: rest) a w :=
  wpList_plain hg fun _ hk => wp_slice_l t x lo ho hx kl li l hlo hl h1 h3 e ht hs (hk _ _ hK)
end
end Go.Xr
