/- Layer 21, record: a record read, the document's; openers. -/
import Derived.Test.YtneoagelcjfanaaDoorRecJ
namespace Go.Proofs.YtneoagelcjfanaaDoor.rcd
open Go Go.Xr Go.RowKit
set_option linter.unusedVariables false
set_option linter.unusedSimpArgs false
attribute [local go_sem] eqgA eqgB eql_u64 eql_u64_c neq_u64 neq_u64_c add_u64_c
/-- What an opener answers; what it is behind it. -/
def opnT (c m label : ByteArray) (nx : UInt64) (cl : Bool) (R : ByteArray) : ByteArray := if cl then ⟨#[]⟩ else if recOk c m label nx R then recT c m label R else ⟨#[]⟩
def opnE (c m label : ByteArray) (nx : UInt64) (cl : Bool) (R : ByteArray) : Int := if cl then 3 else if recOk c m label nx R then 0 else 7
def opnN (c m label : ByteArray) (nx : UInt64) (cl : Bool) (R : ByteArray) : UInt64 := if cl then nx else if recOk c m label nx R then nx + 1 else nx
def opnC (c m label : ByteArray) (nx : UInt64) (cl : Bool) (R : ByteArray) : Bool := if cl then true else if recOk c m label nx R then false else true

set_option maxRecDepth 20000 in
set_option maxHeartbeats 1000000 in
theorem oopen_any {w : World} {p : Nat} {c m label : ByteArray} {nx : UInt64} {cl : Bool} (R : ByteArray) (h : Blk w p (opL c m label nx cl)) (hk : mayS c m = true) (hR : R.size ≤ 9223372036854775807) (hl : label.size < 1099500000000) : Calls Tryd.prog 25 #[.pointer (some ⟨p, 0, none⟩), .string R] w fun e w' => e = .returned (.tuple #[.string (opnT c m label nx cl R), .int .i64 (opnE c m label nx cl R)]) ∧ Blk w' p (opL c m label (opnN c m label nx cl R) (opnC c m label nx cl R)) ∧ Fr [p] w w' := by
  have k4 : w.cell? ⟨p, 4, none⟩ = some (.bool cl) := h.cell 4
  cases cl
  case true =>
    go_enter Tryd.func25, Tryd.ntmps25
    go_wp2_with fail
    go_ret2
    exact ⟨rfl, h, Fr.refl _ _⟩
  case false =>
    have hpw := h.lt
    have H1 := hid (read_ok R h hk hR hl)
    have H2 := H1
    have k2 : w.cell? ⟨p, 2, none⟩ = some (.string label) := h.cell 2
    have k3 : w.cell? ⟨p, 3, none⟩ = some (W64 nx) := h.cell 3
    have hb := h.drew
    cases hok : recOk c m label nx R
    case false =>
      rw [hok] at H1 H2
      have HT := hid (show opnT c m label nx false R = ⟨#[]⟩ by simp [opnT, hok])
      have HE := hid (show opnE c m label nx false R = 7 by simp [opnE, hok])
      have HN := hid (show opnN c m label nx false R = nx by simp [opnN, hok])
      have HC := hid (show opnC c m label nx false R = true by simp [opnC, hok])
      rw [HT.out, HE.out, HN.out, HC.out]
      clear hok
      go_enter Tryd.func25, Tryd.ntmps25
      go_wp2_with fail
      refine H1.out.mono ?_
      rintro e w2 ⟨⟨t, rfl, ht⟩, f2⟩
      have b2 := f2.blk h (by simp)
      have g2 := f2
      clear f2
      go_wp2_with (refine wpList_put rfl _ _ _ rfl rfl (.bool true) rfl rfl b2 (by simp [opL]) (by kernel_rfl) ?_; intro w5 f5 b5 hs5; simp only [World.size_alloc, World.size_drew, Act.put, List.setIfInBounds_toArray, List.set_cons_succ, List.set_cons_zero])
      go_ret2
      exact ⟨rfl, b5, (g2.mono (by simp)).trans' f5⟩
    case true =>
      rw [hok] at H1 H2
      have HT := hid (show opnT c m label nx false R = recT c m label R by simp [opnT, hok])
      have HE := hid (show opnE c m label nx false R = 0 by simp [opnE, hok])
      have HN := hid (show opnN c m label nx false R = nx + 1 by simp [opnN, hok])
      have HC := hid (show opnC c m label nx false R = false by simp [opnC, hok])
      rw [HT.out, HE.out, HN.out, HC.out]
      clear hok
      go_enter Tryd.func25, Tryd.ntmps25
      go_wp2_with fail
      refine H1.out.mono ?_
      rintro e w2 ⟨⟨t, rfl, ht⟩, f2⟩
      have b2 := f2.blk h (by simp)
      have g2 := f2
      clear f2
      have j3 : w2.cell? ⟨p, 3, none⟩ = some (W64 nx) := b2.cell 3
      go_wp2_with (refine wpList_put rfl _ _ _ rfl rfl (W64 (nx + 1)) (by rw [← c64_1]; rfl) rfl b2 (by simp [opL]) (by kernel_rfl) ?_; intro w5 f5 b5 hs5; simp only [World.size_alloc, World.size_drew, Act.put, List.setIfInBounds_toArray, List.set_cons_succ, List.set_cons_zero])
      go_ret2
      rw [← ht trivial]
      exact ⟨rfl, b5, (g2.mono (by simp)).trans' f5⟩
end Go.Proofs.YtneoagelcjfanaaDoor.rcd
