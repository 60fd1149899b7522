/- Layer 21, record: sealers and openers. -/
import Derived.Test.YtneoagelcjfanaaGreatDoorRecG
namespace Go.Xr
open Go
set_option linter.unusedVariables false
/-- A sealer in memory; an opener; the document's opener. -/
def slL (c m label : ByteArray) (nx : UInt64) : List Value := [.string c, .string m, .string label, W64 nx]
def opL (c m label : ByteArray) (nx : UInt64) (cl : Bool) : List Value := [.string c, .string m, .string label, W64 nx, .bool cl]
end Go.Xr
namespace Go.Proofs.YtneoagelcjfanaaGreatDoor.rcd
open Go Go.Xr Go.RowKit
set_option linter.unusedVariables false
set_option linter.unusedSimpArgs false
theorem eqgA (op : BinOp) (t : TypeId) (x y : Operand) (a : UInt64) (n : Int) : eqGuard op t x y (W64 a) (.int .u64 n) = pure () := by cases op <;> rfl
theorem eqgB (op : BinOp) (t : TypeId) (x y : Operand) (a b : UInt64) : eqGuard op t x y (W64 a) (W64 b) = pure () := by cases op <;> rfl
theorem c64_1 : c64 1 = 1 := by decide
attribute [local go_sem] eqgA eqgB eql_u64 eql_u64_c neq_u64 neq_u64_c add_u64_c
/-- A record. -/
def recS (c m label : ByteArray) (i : UInt64) (t : ByteArray) : ByteArray := sealT c m (n8 i) label (padS t (clsN t.size))
theorem recS_size (c m label : ByteArray) (i : UInt64) (t : ByteArray) (h : t.size ≤ 8192) : (recS c m label i t).size = clsN t.size + 40 := by
  unfold recS
  rw [sealT_size, n8_size, padS_size _ _ (clsN_ge _ h)]
  omega

set_option maxRecDepth 20000 in
theorem newS_bad {w : World} (c m label : ByteArray) (hc : c.size ≤ 9223372036854775807) (hm : m.size ≤ 9223372036854775807) (hk : mayS c m = false) : Calls Tryz.prog 24 #[.agg #[.string c, .string m], .string label] w fun e w' => e = .returned (.tuple #[.pointer none, .int .i64 2]) ∧ Fr [] w w' := by
  have hE2 := hid (show mayE c m = 2 by simp [mayE, hk])
  clear hk
  go_enter Tryz.func24, Tryz.ntmps24
  go_wp2_with (refine wpList_box rfl _ _ rfl [.string c, .string m] rfl ?_; intro w1 f1 hlt1 hb1; have k0 := hb1.cell 0; have k1 := hb1.cell 1; simp only [World.size_alloc, World.size_drew, Act.put, List.setIfInBounds_toArray, List.set_cons_succ, List.set_cons_zero])
  refine (may_any c m hc hm).mono ?_
  rintro e w2 ⟨rfl, f2⟩
  rw [hE2.out]
  go_wp2_with fail
  go_ret2
  exact ⟨rfl, f1.trans' f2⟩
set_option maxRecDepth 20000 in
theorem newO_bad {w : World} (c m label : ByteArray) (hc : c.size ≤ 9223372036854775807) (hm : m.size ≤ 9223372036854775807) (hk : mayS c m = false) : Calls Tryz.prog 23 #[.agg #[.string c, .string m], .string label] w fun e w' => e = .returned (.tuple #[.pointer none, .int .i64 2]) ∧ Fr [] w w' := by
  have hE2 := hid (show mayE c m = 2 by simp [mayE, hk])
  clear hk
  go_enter Tryz.func23, Tryz.ntmps23
  go_wp2_with (refine wpList_box rfl _ _ rfl [.string c, .string m] rfl ?_; intro w1 f1 hlt1 hb1; have k0 := hb1.cell 0; have k1 := hb1.cell 1; simp only [World.size_alloc, World.size_drew, Act.put, List.setIfInBounds_toArray, List.set_cons_succ, List.set_cons_zero])
  refine (may_any c m hc hm).mono ?_
  rintro e w2 ⟨rfl, f2⟩
  rw [hE2.out]
  go_wp2_with fail
  go_ret2
  exact ⟨rfl, f1.trans' f2⟩
set_option maxRecDepth 20000 in
theorem newS_any {w : World} (c m label : ByteArray) (hc : c.size ≤ 9223372036854775807) (hm : m.size ≤ 9223372036854775807) (hk : mayS c m = true) : Calls Tryz.prog 24 #[.agg #[.string c, .string m], .string label] w fun e w' => ∃ p, e = .returned (.tuple #[.pointer (some ⟨p, 0, none⟩), .int .i64 0]) ∧ Blk w' p (slL c m label 0) ∧ w.heap.size ≤ p ∧ Fr [] w w' := by
  have hE2 := hid (show mayE c m = 0 by simp [mayE, hk])
  clear hk
  go_enter Tryz.func24, Tryz.ntmps24
  go_wp2_with (refine wpList_box rfl _ _ rfl [.string c, .string m] rfl ?_; intro w1 f1 hlt1 hb1; have k0 := hb1.cell 0; have k1 := hb1.cell 1; simp only [World.size_alloc, World.size_drew, Act.put, List.setIfInBounds_toArray, List.set_cons_succ, List.set_cons_zero])
  refine (may_any c m hc hm).mono ?_
  rintro e w2 ⟨rfl, f2⟩
  rw [hE2.out]
  have b2 := f2.blk hb1 (by simp)
  have k20 := b2.cell 0
  have k21 := b2.cell 1
  go_wp2_with fail
  go_ret2
  exact ⟨w2.heap.size, rfl, Blk.alloc w2 (slL c m label 0) _, (f1.trans' f2).size, (f1.trans' f2).alloc _⟩
set_option maxRecDepth 20000 in
theorem newO_any {w : World} (c m label : ByteArray) (hc : c.size ≤ 9223372036854775807) (hm : m.size ≤ 9223372036854775807) (hk : mayS c m = true) : Calls Tryz.prog 23 #[.agg #[.string c, .string m], .string label] w fun e w' => ∃ p, e = .returned (.tuple #[.pointer (some ⟨p, 0, none⟩), .int .i64 0]) ∧ Blk w' p (opL c m label 0 false) ∧ w.heap.size ≤ p ∧ Fr [] w w' := by
  have hE2 := hid (show mayE c m = 0 by simp [mayE, hk])
  clear hk
  go_enter Tryz.func23, Tryz.ntmps23
  go_wp2_with (refine wpList_box rfl _ _ rfl [.string c, .string m] rfl ?_; intro w1 f1 hlt1 hb1; have k0 := hb1.cell 0; have k1 := hb1.cell 1; simp only [World.size_alloc, World.size_drew, Act.put, List.setIfInBounds_toArray, List.set_cons_succ, List.set_cons_zero])
  refine (may_any c m hc hm).mono ?_
  rintro e w2 ⟨rfl, f2⟩
  rw [hE2.out]
  have b2 := f2.blk hb1 (by simp)
  have k20 := b2.cell 0
  have k21 := b2.cell 1
  go_wp2_with fail
  go_ret2
  exact ⟨w2.heap.size, rfl, Blk.alloc w2 (opL c m label 0 false) _, (f1.trans' f2).size, (f1.trans' f2).alloc _⟩
end Go.Proofs.YtneoagelcjfanaaGreatDoor.rcd
