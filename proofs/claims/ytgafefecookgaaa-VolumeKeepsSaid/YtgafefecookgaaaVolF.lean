/- Layer 8: Len, Place, Index, Writes. -/
import Derived.Test.YtgafefecookgaaaVolE
namespace Go.Proofs.Ytgafefecookgaaa
open Go Go.Xr Go.RowKit
set_option linter.unusedVariables false
set_option linter.unusedSimpArgs false
theorem vquo (t : TypeId) (i d : Nat) (hi : i ≤ 9223372036854775807) (hd : 0 < d) : binOp .quo t (.int .i64 (i : Int)) (.int .i64 (d : Int)) = pure (.int .i64 ((i / d : Nat) : Int)) := by
  have h1 : ((d : Int) == 0) = false := by simp; omega
  have hq0 : i / d ≤ i := Nat.div_le_self _ _
  have h2 : Int.tdiv (i : Int) (d : Int) = ((i / d : Nat) : Int) := by rw [Int.tdiv_eq_ediv_of_nonneg (by omega), Int.natCast_ediv]
  generalize i / d = q at *
  have h3 : IntKind.i64.wrap (q : Int) = (q : Int) := by
    simp [IntKind.wrap, IntKind.bits, IntKind.signed]
    omega
  have h4 : ¬ (d = 0) := by omega
  simp [binOp, Op.intDiv, h2, h3, h4]
theorem vrem (t : TypeId) (a b : Nat) (ha : a ≤ 9223372036854775807) (h : 0 < b) : binOp .rem t (.int .i64 (a : Int)) (.int .i64 (b : Int)) = pure (.int .i64 ((a % b : Nat) : Int)) := by
  have hb : (b : Int) ≠ 0 := by omega
  have hm : a % b ≤ a := Nat.mod_le _ _
  have e : (a : Int).tmod (b : Int) = ((a % b : Nat) : Int) := by rw [Int.tmod_eq_emod_of_nonneg (by omega)]; rfl
  have e2 : IntKind.i64.wrap ((a % b : Nat) : Int) = ((a % b : Nat) : Int) := by
    rw [IntKind.wrap_i64]
    omega
  simp only [binOp, Op.intDiv]
  rw [if_neg hb, e]
  first
    | (rw [e2]; done)
    | (simp only [e2]; rfl)
    | simp [e2]
/-- A sector's place. -/
def plC (n e : Nat) (i : Int) : Int := if 0 ≤ i ∧ i < ((e * n : Nat) : Int) then 0 else 2
def plP (n e : Nat) (i : Int) : Nat := if 0 ≤ i ∧ i < ((e * n : Nat) : Int) then i.toNat % n else 0
def plA (n e : Nat) (i : Int) : Nat := if 0 ≤ i ∧ i < ((e * n : Nat) : Int) then i.toNat / n else 0
section
variable {w w' w0 : World} {vb n c e : Nat} {ad : Option Addr} {wr : Int}
/-- A volume's own cells: n mirrors, e sectors of each. -/
def volL (ad : Option Addr) (n c e : Nat) (wr : Int) : List Value := [.slice ad n c, .int .i64 (e : Int), .int .i64 wr]
set_option maxRecDepth 20000 in
set_option maxHeartbeats 1000000 in
theorem vlen_any (hb : Blk w vb (volL ad n c e wr)) (hn : n ≤ 8) (he : e ≤ 16384) : Calls Try.prog 9 #[.pointer (some ⟨vb, 0, none⟩)] w fun r w' => r = .returned (.int .i64 ((e * n : Nat) : Int)) ∧ Fr [] w w' := by
  have k0 : w.drew.cell? ⟨vb, 0, none⟩ = some (.slice ad n c) := hb.cell 0
  have k1 : w.drew.cell? ⟨vb, 1, none⟩ = some (.int .i64 (e : Int)) := hb.cell 1
  have HS := hid (And.intro k0 k1)
  have hm : e * n ≤ 131072 := Nat.le_trans (Nat.mul_le_mul he hn) (by decide)
  obtain ⟨en, hen⟩ : ∃ en, e * n = en := ⟨_, rfl⟩
  rw [hen] at hm ⊢
  have hmul : ∀ t, binOp .mul t (.int .i64 (e : Int)) (.int .i64 (n : Int)) = pure (.int .i64 (en : Int)) := fun t => by
    show pure (Value.int .i64 (IntKind.i64.wrap ((e : Int) * (n : Int)))) = _
    rw [IntKind.wrap_i64, show (e : Int) * (n : Int) = (en : Int) by rw [← hen]; exact (Int.natCast_mul e n).symm]
    have h9 : ((en : Int) + 9223372036854775808) % 18446744073709551616 - 9223372036854775808 = (en : Int) := by omega
    rw [h9]
  have f0 : Fr [] w w.drew := (Fr.refl [] w).drew
  clear hb hm hen
  go_enter Try.func9, Try.ntmps9
  go_wp2_with fail
  refine wp_region_D (fun _ => True) false [] (by kernel_rfl) ?_
  refine WD.pure [0, 1, 2, 3, 4, 5, 6, 7, 8, 9, 10] (by kernel_rfl) trivial ?_
  simp only [pick, List.toList_toArray, List.map_cons, List.map_nil, List.getD_cons_succ, List.getD_cons_zero]
  repeat (first | go_big_quiet_step (fail))
  refine wpQuiet_nil ?_
  refine WD.done (by kernel_rfl) ?_
  go_wp2_with fail
  go_ret
  exact ⟨rfl, f0⟩
set_option maxRecDepth 20000 in
theorem vlen_nil (w : World) : Calls Try.prog 9 #[.pointer none] w fun r w' => r = .returned (.int .i64 0) ∧ w' = w := by
  go_enter Try.func9, Try.ntmps9
  go_wp2_with fail
  go_ret
  exact ⟨rfl, rfl⟩
set_option maxRecDepth 20000 in
theorem vwr_any (hb : Blk w vb (volL ad n c e wr)) : Calls Try.prog 19 #[.pointer (some ⟨vb, 0, none⟩)] w fun r w' => r = .returned (.int .i64 wr) ∧ w' = w := by
  have k2 : w.cell? ⟨vb, 2, none⟩ = some (.int .i64 wr) := hb.cell 2
  clear hb
  go_enter Try.func19, Try.ntmps19
  go_wp2_with fail
  go_ret
  exact ⟨rfl, rfl⟩
set_option maxRecDepth 20000 in
theorem vwr_nil (w : World) : Calls Try.prog 19 #[.pointer none] w fun r w' => r = .returned (.int .i64 0) ∧ w' = w := by
  go_enter Try.func19, Try.ntmps19
  go_wp2_with fail
  go_ret
  exact ⟨rfl, rfl⟩
set_option maxRecDepth 20000 in
theorem vplace_nil (w : World) (i : Int) : Calls Try.prog 8 #[.pointer none, .int .i64 i] w fun r w' => r = .returned (.tuple #[.int .i64 0, .int .i64 0, .int .i64 1]) ∧ w' = w := by
  go_enter Try.func8, Try.ntmps8
  go_wp2_with fail
  go_ret3
  exact ⟨rfl, rfl⟩
set_option maxRecDepth 20000 in
set_option maxHeartbeats 1000000 in
theorem vplace_any {rb : Nat} (hb : Blk w vb (volL (some ⟨rb, 0, none⟩) n c e wr)) (h1 : 1 ≤ n) (hn : n ≤ 8) (he : e ≤ 16384) (i : Int) :
    Calls Try.prog 8 #[.pointer (some ⟨vb, 0, none⟩), .int .i64 i] w fun r w' => r = .returned (.tuple #[.int .i64 (plP n e i : Int), .int .i64 (plA n e i : Int), .int .i64 (plC n e i)]) ∧ Fr [] w w' := by
  have HL := hid (vlen_any hb hn he)
  have HB := hid hb
  have k0 : w.cell? ⟨vb, 0, none⟩ = some (.slice (some ⟨rb, 0, none⟩) n c) := hb.cell 0
  have hm : e * n ≤ 131072 := Nat.le_trans (Nat.mul_le_mul he hn) (by decide)
  have hsn := @Lib.run_eql_slice_nil
  unfold plP plA plC
  obtain ⟨en, hen⟩ : ∃ en, e * n = en := ⟨_, rfl⟩
  rw [hen] at hm HL ⊢
  clear hb hen
  by_cases h0 : i < 0
  · have u0 : decide (i < 0) = true := by simpa using h0
    rw [if_neg (by omega), if_neg (by omega), if_neg (by omega)]
    go_enter Try.func8, Try.ntmps8
    go_wp2_with fail
    go_ret3
    exact ⟨rfl, Fr.refl [] _⟩
  · have u0 : decide (i < 0) = false := by simpa using h0
    by_cases h3 : (en : Int) ≤ i
    · have u3 : decide ((en : Int) ≤ i) = true := by simpa using h3
      rw [if_neg (by omega), if_neg (by omega), if_neg (by omega)]
      go_enter Try.func8, Try.ntmps8
      go_wp2_with (go_at_call 9; refine HL.out.mono ?_; rintro r w5 ⟨rfl, f5⟩)
      go_ret3
      exact ⟨rfl, f5⟩
    · have u3 : decide ((en : Int) ≤ i) = false := by simpa using h3
      obtain ⟨q, rfl⟩ : ∃ q : Nat, i = (q : Int) := ⟨i.toNat, by omega⟩
      rw [if_pos (by omega), if_pos (by omega), if_pos (by omega), Int.toNat_natCast]
      have hr := fun t : TypeId => vrem t q n (by omega) (by omega)
      have hq := fun t : TypeId => vquo t q n (by omega) (by omega)
      generalize q % n = a at *
      generalize q / n = b at *
      go_enter Try.func8, Try.ntmps8
      go_wp2_with (go_at_call 9; refine HL.out.mono ?_; rintro r w5 ⟨rfl, f5⟩; have k5 : w5.cell? ⟨vb, 0, none⟩ = some (.slice (some ⟨rb, 0, none⟩) n c) := (f5.blk HB.out (by simp)).cell 0)
      refine wp_region_D (fun _ => True) false [] (by kernel_rfl) ?_
      refine WD.pure [0, 1, 2, 3, 4, 5, 6, 7, 8, 9, 10, 11, 12, 13, 14, 15, 16] (by kernel_rfl) trivial ?_
      simp only [pick, List.toList_toArray, List.map_cons, List.map_nil, List.getD_cons_succ, List.getD_cons_zero]
      repeat (first | go_big_quiet_step (fail))
      refine wpQuiet_nil ?_
      refine WD.done (by kernel_rfl) ?_
      go_wp2_with fail
      go_ret3
      exact ⟨rfl, f5.drew⟩
end
end Go.Proofs.Ytgafefecookgaaa
