/- Layer 4, seal: nonces, each once. -/
import Derived.Test.YtjffhlhpapjnnaaGSealTexts
namespace Go.Xr
open Go
set_option linter.unusedVariables false
/-- Nonces in memory: the next one, how many are used, whether there is none any more. -/
def nnL (nx us : UInt64) (ov : Bool) : List Value := [W64 nx, W64 us, .bool true, .bool ov]
theorem nnL_one (nx us : UInt64) (ov : Bool) : ∀ u ∈ nnL nx us ov, u.oneCell' = true := by
  intro u hu
  simp only [nnL, List.mem_cons, List.not_mem_nil, or_false] at hu
  rcases hu with rfl | rfl | rfl | rfl <;> rfl
theorem c64_one : c64 1 = 1 := by decide
end Go.Xr
namespace Go.Proofs.Ytjffhlhpapjnnaa
open Go Go.Xr Go.RowKit Go.Proofs.Ytjffhlhpapjnnaa.aes
set_option linter.unusedVariables false
set_option linter.unusedSimpArgs false
attribute [local go_sem] store_u64 put_u64 cells_u64 add_u64_c eql_u64_c eql_u64 eqg_u64
theorem eqg_u64_c (op : BinOp) (t : TypeId) (x y : Operand) (a : UInt64) (n : Int) : eqGuard op t x y (W64 a) (.int .u64 n) = pure () := by cases op <;> rfl
attribute [local go_sem] eqg_u64_c

set_option maxRecDepth 20000 in
theorem newn_any {w : World} (x : UInt64) : Calls Try.prog 26 #[W64 x] w fun e w' => e = .returned (.pointer (some ⟨w.heap.size, 0, none⟩)) ∧ Blk w' w.heap.size (nnL x 0 false) ∧ w.heap.size < w'.heap.size ∧ Fr [] w w' := by
  rw [val_u64]
  go_enter Try.func26, Try.ntmps26
  go_wp2_with fail
  go_ret
  exact ⟨rfl, Blk.alloc w (nnL x 0 false) _, by simp, (Fr.refl [] w).alloc _⟩

set_option maxRecDepth 20000 in
theorem used_any {w : World} {p : Nat} {nx us : UInt64} {ov : Bool} (h : Blk w p (nnL nx us ov)) : Calls Try.prog 25 #[.pointer (some ⟨p, 0, none⟩)] w fun e w' => e = .returned (W64 us) ∧ w = w' := by
  have k1 : w.cell? ⟨p, 1, none⟩ = some (W64 us) := h.cell 1
  go_enter Try.func25, Try.ntmps25
  go_wp2_with fail
  go_ret
  exact ⟨rfl, rfl⟩

set_option maxRecDepth 20000 in
theorem next_over {w : World} {p : Nat} {nx us : UInt64} (h : Blk w p (nnL nx us true)) : Calls Try.prog 23 #[.pointer (some ⟨p, 0, none⟩)] w fun e w' => e = .returned (.tuple #[.int .u64 0, .int .i64 40]) ∧ w = w' := by
  have k2 : w.cell? ⟨p, 2, none⟩ = some (.bool true) := h.cell 2
  have k3 : w.cell? ⟨p, 3, none⟩ = some (.bool true) := h.cell 3
  go_enter Try.func23, Try.ntmps23
  go_wp2_with fail
  go_ret2
  exact ⟨rfl, rfl⟩

set_option maxRecDepth 20000 in
theorem next_any {w : World} {p : Nat} {nx us : UInt64} (h : Blk w p (nnL nx us false)) : Calls Try.prog 23 #[.pointer (some ⟨p, 0, none⟩)] w fun e w' => e = .returned (.tuple #[W64 nx, .int .i64 0]) ∧ Blk w' p (nnL (nx + 1) (us + 1) (decide (nx + 1 = 0))) ∧ Fr [p] w w' := by
  have k0 : w.cell? ⟨p, 0, none⟩ = some (W64 nx) := h.cell 0
  have k1 : w.cell? ⟨p, 1, none⟩ = some (W64 us) := h.cell 1
  have k2 : w.cell? ⟨p, 2, none⟩ = some (.bool true) := h.cell 2
  have k3 : w.cell? ⟨p, 3, none⟩ = some (.bool false) := h.cell 3
  go_enter Try.func23, Try.ntmps23
  have hz : (((nx + 1).toNat : Int) == 0) = decide (nx + 1 = 0) := by
    rw [Bool.eq_iff_iff]
    simp only [beq_iff_eq, decide_eq_true_eq, ← UInt64.toNat_inj]
    rw [show (0 : UInt64).toNat = 0 from rfl]
    omega
  have Hz := hid hz
  clear hz
  go_wp2_with (first
    | (refine wpList_put rfl _ _ _ rfl rfl (W64 (nx + 1)) (by rw [← c64_one]; rfl) rfl h (by simp [nnL]) (by kernel_rfl) ?_; intro w2 f2 b2 hs2; have j0 : w2.cell? ⟨p, 0, none⟩ = some (W64 (nx + 1)) := b2.cell 0; have j1 : w2.cell? ⟨p, 1, none⟩ = some (W64 us) := b2.cell 1; simp only [World.size_alloc, World.size_drew, Act.put, List.setIfInBounds_toArray, List.set_cons_succ, List.set_cons_zero])
    | (refine wpList_put rfl _ _ _ rfl rfl (W64 (us + 1)) (by rw [← c64_one]; rfl) rfl b2 (by simp [nnL]) (by kernel_rfl) ?_; intro w3 f3 b3 hs3; have i0 : w3.cell? ⟨p, 0, none⟩ = some (W64 (nx + 1)) := b3.cell 0; simp only [World.size_alloc, World.size_drew, Act.put, List.setIfInBounds_toArray, List.set_cons_succ, List.set_cons_zero])
    | (refine wpList_put rfl _ _ _ rfl rfl (.bool (decide (nx + 1 = 0))) (by rw [← Hz.out]; rfl) rfl b3 (by simp [nnL]) (by kernel_rfl) ?_; intro w4 f4 b4 hs4; simp only [World.size_alloc, World.size_drew, Act.put, List.setIfInBounds_toArray, List.set_cons_succ, List.set_cons_zero]))
  go_ret2
  exact ⟨rfl, b4, (f2.trans' f3).trans' f4⟩

set_option maxRecDepth 20000 in
theorem nseal_bad {w : World} {p : Nat} {nx us : UInt64} {ov : Bool} (c m label s : ByteArray) (hc : c.size ≤ 9223372036854775807) (hm : m.size ≤ 9223372036854775807) (h : Blk w p (nnL nx us ov)) (hk : mayS c m = false) :
    Calls Try.prog 24 #[.pointer (some ⟨p, 0, none⟩), .agg #[.string c, .string m], .string label, .string s] w fun e w' => e = .returned (.tuple #[.string ⟨#[]⟩, .int .i64 2]) ∧ Fr [] w w' := by
  have hE2 := hid (show mayE c m = 2 by simp [mayE, hk])
  clear hk
  go_enter Try.func24, Try.ntmps24
  go_wp2_with (refine wpList_box rfl _ _ rfl [.string c, .string m] rfl ?_; intro w1 f1 hlt1 hb1; have k0 := hb1.cell 0; have k1 := hb1.cell 1; have hp1 := f1.blk h (by simp); have q2 : w1.cell? ⟨p, 2, none⟩ = some (.bool true) := hp1.cell 2; simp only [World.size_alloc, World.size_drew, Act.put, List.setIfInBounds_toArray, List.set_cons_succ, List.set_cons_zero])
  refine (may_any c m hc hm).mono ?_
  rintro e w2 ⟨rfl, f2⟩
  rw [hE2.out]
  go_wp2_with fail
  go_ret2
  exact ⟨rfl, f1.trans' f2⟩
set_option maxRecDepth 20000 in
theorem nseal_over {w : World} {p : Nat} {nx us : UInt64} (c m label s : ByteArray) (hc : c.size ≤ 9223372036854775807) (hm : m.size ≤ 9223372036854775807) (h : Blk w p (nnL nx us true)) (hk : mayS c m = true) (hs : s.size ≤ 1048576) :
    Calls Try.prog 24 #[.pointer (some ⟨p, 0, none⟩), .agg #[.string c, .string m], .string label, .string s] w fun e w' => e = .returned (.tuple #[.string ⟨#[]⟩, .int .i64 40]) ∧ Fr [] w w' := by
  have hE2 := hid (show mayE c m = 0 by simp [mayE, hk])
  have hd : decide (1048576 < (s.size : Int)) = false := by simp; omega
  clear hk
  go_enter Try.func24, Try.ntmps24
  go_wp2_with (refine wpList_box rfl _ _ rfl [.string c, .string m] rfl ?_; intro w1 f1 hlt1 hb1; have k0 := hb1.cell 0; have k1 := hb1.cell 1; have hp1 := f1.blk h (by simp); have q2 : w1.cell? ⟨p, 2, none⟩ = some (.bool true) := hp1.cell 2; simp only [World.size_alloc, World.size_drew, Act.put, List.setIfInBounds_toArray, List.set_cons_succ, List.set_cons_zero])
  refine (may_any c m hc hm).mono ?_
  rintro e w2 ⟨rfl, f2⟩
  rw [hE2.out]
  have hp2 := f2.blk hp1 (by simp)
  go_wp2_with fail
  refine (next_over hp2).mono ?_
  rintro e w3 ⟨rfl, rfl⟩
  go_wp2_with fail
  go_ret2
  exact ⟨rfl, f1.trans' f2⟩
set_option maxRecDepth 20000 in
theorem nseal_any {w : World} {p : Nat} {nx us : UInt64} (c m label s : ByteArray) (hc : c.size ≤ 9223372036854775807) (hm : m.size ≤ 9223372036854775807) (h : Blk w p (nnL nx us false)) (hk : mayS c m = true) (hs : s.size ≤ 1048576) (hl : label.size < 1099500000000) :
    Calls Try.prog 24 #[.pointer (some ⟨p, 0, none⟩), .agg #[.string c, .string m], .string label, .string s] w fun e w' => e = .returned (.tuple #[.string (sealR c m (n8 nx) label s), .int .i64 0]) ∧ Blk w' p (nnL (nx + 1) (us + 1) (decide (nx + 1 = 0))) ∧ Fr [p] w w' := by
  have hE2 := hid (show mayE c m = 0 by simp [mayE, hk])
  have hd : decide (1048576 < (s.size : Int)) = false := by simp; omega
  have HS := hid fun w0 : World => seal_any (w := w0) c m label s nx hc hm (by omega) hl
  rw [show sealE c m s = 0 by simp [sealE, hk, hs]] at HS
  obtain ⟨Z, hZ⟩ : ∃ Z, sealR c m (n8 nx) label s = Z := ⟨_, rfl⟩
  rw [hZ] at HS ⊢
  clear hk hZ
  go_enter Try.func24, Try.ntmps24
  go_wp2_with (refine wpList_box rfl _ _ rfl [.string c, .string m] rfl ?_; intro w1 f1 hlt1 hb1; have k0 := hb1.cell 0; have k1 := hb1.cell 1; have hp1 := f1.blk h (by simp); have q2 : w1.cell? ⟨p, 2, none⟩ = some (.bool true) := hp1.cell 2; simp only [World.size_alloc, World.size_drew, Act.put, List.setIfInBounds_toArray, List.set_cons_succ, List.set_cons_zero])
  refine (may_any c m hc hm).mono ?_
  rintro e w2 ⟨rfl, f2⟩
  rw [hE2.out]
  have hp2 := f2.blk hp1 (by simp)
  have hB2 := f2.blk hb1 (by simp)
  have g2 := f1.trans' f2
  have hpw := h.lt
  clear k0 k1 q2 hp1 hb1 f1 f2
  go_wp2_with fail
  refine (next_any hp2).mono ?_
  rintro e w3 ⟨rfl, hp3, f3⟩
  have hB3 := f3.blk hB2 (by simp; omega)
  have k0 := hB3.cell 0
  have k1 := hB3.cell 1
  clear hB2 hp2
  go_wp2_with fail
  refine (HS.out _).mono ?_
  rintro e w4 ⟨rfl, f4⟩
  have hp4 := f4.blk hp3 (by simp)
  clear hB3 hp3 k0 k1
  go_wp2_with fail
  go_ret2
  exact ⟨rfl, hp4, ((g2.mono (by simp)).trans' f3).trans f4 (by simp)⟩
end Go.Proofs.Ytjffhlhpapjnnaa
