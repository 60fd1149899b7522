/- Layer 4: SealTexts, the walk. -/
import Derived.Test.YtjffhlhpapjnnaaGSeal
namespace Go.Proofs.Ytjffhlhpapjnnaa
open Go Go.Xr Go.RowKit Go.Proofs.Ytjffhlhpapjnnaa.aes
set_option linter.unusedVariables false
set_option linter.unusedSimpArgs false
theorem readA {w : World} (s : ByteArray) (hm : s.size ≤ 9223372036854775807) : ∃ (x : Value) (T : ByteArray) (e0 : Int), (x = .int .u64 0 ∨ ∃ y, x = W64 y) ∧
    (∀ w : World, Calls Try.prog 19 #[.string s] w fun e w' => e = .returned (.tuple #[x, .string T, .int .i64 e0]) ∧ Fr [] w w') ∧ (∀ w : World, Calls Try.prog 20 #[.string s] w fun e w' => e = .returned (.tuple #[x, .string T, .int .i64 e0]) ∧ Fr [] w w') := by
  by_cases h : 40 ≤ s.size
  · exact ⟨_, _, _, .inr ⟨_, rfl⟩, fun w => read_any s h hm, fun w => rread_any s h hm⟩
  · refine ⟨.int .u64 0, ⟨#[]⟩, 7, .inl rfl, fun w => (read_bad s (by omega)).mono ?_, fun w => (rread_bad s (by omega)).mono ?_⟩
    · rintro e w' ⟨rfl, rfl⟩
      exact ⟨rfl, Fr.refl _ _⟩
    · rintro e w' ⟨rfl, rfl⟩
      exact ⟨rfl, Fr.refl _ _⟩
theorem eqg_u64 (t : TypeId) (x y : Operand) (a b : UInt64) : eqGuard .eql t x y (W64 a) (W64 b) = pure () := rfl
attribute [local go_sem] eql_u64 eqg_u64

set_option maxRecDepth 20000 in
set_option maxHeartbeats 1000000 in
theorem texts_walk {w : World} (c m label s sd : ByteArray) (x : UInt64) (hc : c.size ≤ 9223372036854775807) (hm : m.size ≤ 9223372036854775807) (hl : label.size ≤ 140737488351232) (hs : s.size ≤ 140737488351232) (hd : sd.size ≤ 140737488351232) :
    Calls Try.prog 4 #[.agg #[.string c, .string m], .int .u64 (x.toNat : Int), .string label, .string s, .string sd] w fun e w' => e = .returned (.bool true) ∧ Fr [] w w' := by
  rw [← val_u64]
  by_cases hbig : 2048 < label.size + s.size + sd.size
  · have hd1 : decide (2048 < (label.size : Int) + (s.size : Int) + (sd.size : Int)) = true := by simp; omega
    have hd2 : decide (2048 < label.size + s.size + sd.size) = true := by simp; omega
    clear hbig
    go_enter Try.func4, Try.ntmps4
    go_wp2_with (refine wpList_box rfl _ _ rfl [.string c, .string m] rfl ?_; intro w1 f1 hlt1 hb1; have k0 := hb1.cell 0; have k1 := hb1.cell 1; simp only [World.size_alloc, World.size_drew, Act.put, List.setIfInBounds_toArray, List.set_cons_succ, List.set_cons_zero])
    refine alive_any.mono ?_
    rintro e w2 ⟨rfl, f2⟩
    go_wp2_with fail
    go_ret
    exact ⟨rfl, f1.trans' f2⟩
  · have hd1 : decide (2048 < (label.size : Int) + (s.size : Int) + (sd.size : Int)) = false := by simp; omega
    have hd2 : decide (2048 < label.size + s.size + sd.size) = false := by simp; omega
    have H1 := hid fun w0 : World => seal_any (w := w0) c m label s x hc hm (by omega) (by omega)
    have H2 := hid fun w0 : World => rseal_any (w := w0) c m label s x hc hm (by omega) (by omega)
    have H3 := hid fun w0 : World => open_any (w := w0) c m label sd hc hm (by omega) (by omega)
    have H4 := hid fun w0 : World => ropen_any (w := w0) c m label sd hc hm (by omega) (by omega)
    obtain ⟨R, T, e0, hR, h5, h6⟩ := readA (w := w) sd (by omega)
    have H5 := hid h5
    have H6 := hid h6
    obtain ⟨A, hA⟩ : ∃ A, sealR c m (n8 x) label s = A := ⟨_, rfl⟩
    obtain ⟨e1, he1⟩ : ∃ e1, sealE c m s = e1 := ⟨_, rfl⟩
    obtain ⟨B, hB⟩ : ∃ B, openR c m label sd = B := ⟨_, rfl⟩
    obtain ⟨e2, he2⟩ : ∃ e2, openE c m label sd = e2 := ⟨_, rfl⟩
    rw [hA, he1] at H1 H2
    rw [hB, he2] at H3 H4
    clear hA he1 hB he2 hbig h5 h6
    rcases hR with rfl | ⟨y, rfl⟩
    all_goals
      go_enter Try.func4, Try.ntmps4
      go_wp2_with (refine wpList_box rfl _ _ rfl [.string c, .string m] rfl ?_; intro w1 f1 hlt1 hb1; have k0 := hb1.cell 0; have k1 := hb1.cell 1; simp only [World.size_alloc, World.size_drew, Act.put, List.setIfInBounds_toArray, List.set_cons_succ, List.set_cons_zero])
      refine (H1.out _).mono ?_
      rintro e w2 ⟨rfl, f2⟩
      have b2 := f2.blk hb1 (by simp)
      have k20 := b2.cell 0
      have k21 := b2.cell 1
      have g2 := f1.trans' f2
      clear k0 k1 hb1 f1 f2
      go_wp2_with fail
      refine (H2.out _).mono ?_
      rintro e w3 ⟨rfl, f3⟩
      have b3 := f3.blk b2 (by simp)
      have k30 := b3.cell 0
      have k31 := b3.cell 1
      have g3 := g2.trans' f3
      clear k20 k21 b2 f3 g2
      go_wp2_with fail
      refine (H3.out _).mono ?_
      rintro e w4 ⟨rfl, f4⟩
      have b4 := f4.blk b3 (by simp)
      have k40 := b4.cell 0
      have k41 := b4.cell 1
      have g4 := g3.trans' f4
      clear k30 k31 b3 f4 g3
      go_wp2_with fail
      refine (H4.out _).mono ?_
      rintro e w5 ⟨rfl, f5⟩
      have g5 := g4.trans' f5
      clear k40 k41 b4 f5 g4
      go_wp2_with fail
      refine (H5.out _).mono ?_
      rintro e w6 ⟨rfl, f6⟩
      go_wp2_with fail
      refine (H6.out _).mono ?_
      rintro e w7 ⟨rfl, f7⟩
      go_wp2_with fail
      refine alive_any.mono ?_
      rintro e w8 ⟨rfl, f8⟩
      go_wp2_with fail
      go_ret
      exact ⟨rfl, ((g5.trans' f6).trans' f7).trans' f8⟩
end Go.Proofs.Ytjffhlhpapjnnaa
