/- Layer 21, record: works; what is nil. -/
import Derived.Test.YtgbkbhklgbjgmaaRecL
namespace Go.Proofs.Ytgbkbhklgbjgmaa.rcd
open Go Go.Xr Go.RowKit
set_option linter.unusedVariables false
set_option linter.unusedSimpArgs false
attribute [local go_sem] eqgA eqgB eql_u64 eql_u64_c neq_u64 neq_u64_c add_u64_c
def zL : List UInt8 := List.replicate 32 0
def zS : ByteArray := ⟨zL.toArray⟩
def xS : ByteArray := ⟨#[120]⟩
theorem zS_size : zS.size = 32 := rfl
theorem wk_sizes : (keyC zS xS).size = 16 ∧ (keyM zS xS).size = 32 := ⟨keyC_size _ _, keyM_size _ _⟩
theorem u01 : (0 : UInt64) + 1 = 1 := by decide
theorem u12 : (1 : UInt64) + 1 = 2 := by decide
theorem recOk_no (c m label t : ByteArray) (x nx : UInt64) (hc : c.size = 16) (hm : m.size = 32) (h : t.size ≤ 8192) (hx : x ≠ nx) : recOk c m label nx (recS c m label x t) = false := by
  rw [recOk_rec c m label t x nx hc hm h]
  exact decide_eq_false hx
theorem recOk_yes (c m label t : ByteArray) (x : UInt64) (hc : c.size = 16) (hm : m.size = 32) (h : t.size ≤ 8192) : recOk c m label x (recS c m label x t) = true := by
  rw [recOk_rec c m label t x x hc hm h]
  exact decide_eq_true rfl
set_option maxRecDepth 20000 in
set_option maxHeartbeats 1000000 in
theorem works_any {w : World} : Calls Try.prog 11 #[] w fun e w' => e = .returned (.bool true) ∧ Fr [] w w' := by
  obtain ⟨i5, hi5, hz5, hs5, hb5⟩ := inf5
  have Hi := hid hi5
  have Hz := hid hz5
  have Hs := hid hs5
  have Hb := hid hb5
  have H1 := hid fun w0 : World => rkeys_any (w := w0) zS xS rfl (by decide)
  obtain ⟨hC, hM⟩ := wk_sizes
  obtain ⟨C, hCe⟩ : ∃ C, keyC zS xS = C := ⟨_, rfl⟩
  obtain ⟨M, hMe⟩ : ∃ M, keyM zS xS = M := ⟨_, rfl⟩
  rw [hCe, hMe] at H1
  rw [hCe] at hC
  rw [hMe] at hM
  clear hCe hMe
  have hk : mayS C M = true := by simp [mayS, hC, hM]
  have H2 := hid fun w0 : World => newS_any (w := w0) C M xS (by omega) (by omega) hk
  have H3 := hid fun w0 : World => newO_any (w := w0) C M xS (by omega) (by omega) hk
  have H4 := hid fun (w0 : World) (p : Nat) (h : Blk w0 p (slL C M xS 0)) => sseal_any ⟨#[97, 98]⟩ h hk (by decide) (by decide)
  have H5 := hid fun (w0 : World) (p : Nat) (h : Blk w0 p (slL C M xS 1)) => sseal_any ⟨#[99]⟩ h hk (by decide) (by decide)
  rw [u01] at H4
  rw [u12] at H5
  obtain ⟨R, hR⟩ : ∃ R, recS C M xS 0 ⟨#[97, 98]⟩ = R := ⟨_, rfl⟩
  obtain ⟨R2, hR2⟩ : ∃ R2, recS C M xS 1 ⟨#[99]⟩ = R2 := ⟨_, rfl⟩
  have hRs : R.size = 104 := by rw [← hR, recS_size _ _ _ _ _ (by decide)]; decide
  have hR2s : R2.size = 104 := by rw [← hR2, recS_size _ _ _ _ _ (by decide)]; decide
  have hy : recOk C M xS 0 R = true := by rw [← hR]; exact recOk_yes _ _ _ _ _ hC hM (by decide)
  have ht : recT C M xS R = ⟨#[97, 98]⟩ := by rw [← hR]; exact recT_rec _ _ _ _ _ hC hM (by decide)
  have hn : recOk C M xS 1 R = false := by rw [← hR]; exact recOk_no _ _ _ _ _ _ hC hM (by decide) (by decide)
  have H6 := hid fun (w0 : World) (p : Nat) (h : Blk w0 p (opL C M xS 0 false)) => oopen_any R h hk (by omega) (by decide)
  have H7 := hid fun (w0 : World) (p : Nat) (h : Blk w0 p (opL C M xS 1 false)) => oopen_any R h hk (by omega) (by decide)
  have H8 := hid fun (w0 : World) (p : Nat) (h : Blk w0 p (opL C M xS 1 true)) => oopen_any R2 h hk (by omega) (by decide)
  rw [hR] at H4
  rw [hR2] at H5
  rw [show opnT C M xS 0 false R = ⟨#[97, 98]⟩ by simp [opnT, hy, ht], show opnE C M xS 0 false R = 0 by simp [opnE, hy], show opnN C M xS 0 false R = 1 by simp [opnN, hy], show opnC C M xS 0 false R = false by simp [opnC, hy]] at H6
  rw [show opnT C M xS 1 false R = ⟨#[]⟩ by simp [opnT, hn], show opnE C M xS 1 false R = 7 by simp [opnE, hn], show opnN C M xS 1 false R = 1 by simp [opnN, hn], show opnC C M xS 1 false R = true by simp [opnC, hn]] at H7
  rw [show opnT C M xS 1 true R2 = ⟨#[]⟩ by simp [opnT], show opnE C M xS 1 true R2 = 3 by simp [opnE], show opnN C M xS 1 true R2 = 1 by simp [opnN], show opnC C M xS 1 true R2 = true by simp [opnC]] at H8
  have H9 := hid fun w0 : World => class_any (w := w0) 61 (by decide) (by decide)
  rw [show clsI 61 = 128 from by decide] at H9
  have hR1 : ((R.size : Int) == 104) = true := by rw [hRs]; rfl
  have HL := hid (show List.replicate 32 (bt 0) = bv zL by rw [zL, bv_replicate])
  clear hi5 hz5 hs5 hb5 hC hM hk hR hR2 hRs hR2s hy ht hn
  go_enter Try.func11, Try.ntmps11
  go_wp2_with (first
    | (refine wpList_make1 rfl _ _ _ rfl 32 32 .i64 .i64 rfl rfl 5 _ _ 1 Try.underlying57 Hi.out Hz.out Hs.out Hb.out rfl (Nat.le_refl _) (by omega) (by omega) ?_; intro w1 f1 hlt1 ho1; rw [HL.out] at ho1; simp only [World.size_alloc, World.size_drew, Act.put, List.setIfInBounds_toArray, List.set_cons_succ, List.set_cons_zero])
    | (refine wpList_string_of_own rfl 57 9 5 _ rfl rfl ho1 Try.underlying57 Try.underlying5 Try.underlying9 ?_; simp only [World.size_alloc, World.size_drew, Act.put, List.setIfInBounds_toArray, List.set_cons_succ, List.set_cons_zero]))
  refine (H1.out _).mono ?_
  rintro e w2 ⟨rfl, f2⟩
  go_wp2_with fail
  have g2 := (f1.trans' f2).alloc (.cells [Value.string C, Value.string M].toArray 23)
  have b2 := Blk.alloc w2 [Value.string C, Value.string M] 23
  clear ho1 f1 f2 hlt1
  refine (H2.out _).mono ?_
  rintro e w3 ⟨p, rfl, hp3, hle3, f3⟩
  rw [World.size_alloc] at hle3
  have hwa := g2.size
  rw [World.size_alloc] at hwa
  have b3 := f3.blk b2 (by simp)
  have k30 := b3.cell 0
  have k31 := b3.cell 1
  have g3 := g2.trans' f3
  clear f3 b2 g2
  go_wp2_with fail
  refine (H3.out _).mono ?_
  rintro e w4 ⟨q, rfl, hq4, hle4, f4⟩
  have hp4 := f4.blk hp3 (by simp)
  have g4 := g3.trans' f4
  have hpl := hp3.lt
  have hww := g3.size
  have hww2 := f4.size
  have hqp : q ≠ p := by omega
  have Hqp := hid (show q ∉ [p] by simpa using hqp)
  have Hpq := hid (show p ∉ [q] by simpa using Ne.symm hqp)
  have Hpw := hid (show ∀ x ∈ [p], x ∈ ([] : List Nat) ∨ w.heap.size ≤ x by simp; omega)
  have Hqw := hid (show ∀ x ∈ [q], x ∈ ([] : List Nat) ∨ w.heap.size ≤ x by simp; omega)
  clear f4 g3 hp3 hqp hpl hwa hww hww2 hle3 hle4 k30 k31 b3
  go_wp2_with fail
  refine (H4.out _ _ hp4).mono ?_
  rintro e w5 ⟨rfl, hp5, f5⟩
  have hq5 := f5.blk hq4 Hqp.out
  have g5 := g4.trans f5 Hpw.out
  clear f5 hp4 hq4 g4
  go_wp2_with fail
  refine (H5.out _ _ hp5).mono ?_
  rintro e w6 ⟨rfl, hp6, f6⟩
  have hq6 := f6.blk hq5 Hqp.out
  have g6 := g5.trans f6 Hpw.out
  clear f6 hp5 hq5 g5
  go_wp2_with fail
  refine (H6.out _ _ hq6).mono ?_
  rintro e w7 ⟨rfl, hq7, f7⟩
  have hp7 := f7.blk hp6 Hpq.out
  have g7 := g6.trans f7 Hqw.out
  clear f7 hp6 hq6 g6
  go_wp2_with fail
  refine (H7.out _ _ hq7).mono ?_
  rintro e w8 ⟨rfl, hq8, f8⟩
  have hp8 := f8.blk hp7 Hpq.out
  have g8 := g7.trans f8 Hqw.out
  clear f8 hp7 hq7 g7
  go_wp2_with fail
  refine (H8.out _ _ hq8).mono ?_
  rintro e w9 ⟨rfl, hq9, f9⟩
  have hp9 := f9.blk hp8 Hpq.out
  have g9 := g8.trans f9 Hqw.out
  clear f9 hp8 hq8 g8
  go_wp2_with fail
  refine (closed_any hq9).mono ?_
  rintro e w' ⟨rfl, rfl⟩
  go_wp2_with fail
  refine (ocount_any hq9).mono ?_
  rintro e w' ⟨rfl, rfl⟩
  go_wp2_with fail
  refine (scount_any hp9).mono ?_
  rintro e w' ⟨rfl, rfl⟩
  go_wp2_with fail
  refine (H9.out _).mono ?_
  rintro e w' ⟨rfl, f10⟩
  go_wp2_with fail
  go_ret
  exact ⟨rfl, g9.trans' f10⟩

set_option maxRecDepth 20000 in
theorem sseal_nil {w : World} (s : ByteArray) : Calls Try.prog 15 #[.pointer none, .string s] w fun e w' => e = .returned (.tuple #[.string ⟨#[]⟩, .int .i64 1]) ∧ w = w' := by
  go_enter Try.func15, Try.ntmps15
  go_wp2_with fail
  go_ret2
  exact ⟨rfl, rfl⟩
set_option maxRecDepth 20000 in
theorem oopen_nil {w : World} (s : ByteArray) : Calls Try.prog 21 #[.pointer none, .string s] w fun e w' => e = .returned (.tuple #[.string ⟨#[]⟩, .int .i64 1]) ∧ w = w' := by
  go_enter Try.func21, Try.ntmps21
  go_wp2_with fail
  go_ret2
  exact ⟨rfl, rfl⟩
set_option maxRecDepth 20000 in
theorem scount_nil {w : World} : Calls Try.prog 17 #[.pointer none] w fun e w' => e = .returned (.int .u64 0) ∧ w = w' := by
  go_enter Try.func17, Try.ntmps17
  go_wp2_with fail
  go_ret
  exact ⟨rfl, rfl⟩
set_option maxRecDepth 20000 in
theorem ocount_nil {w : World} : Calls Try.prog 23 #[.pointer none] w fun e w' => e = .returned (.int .u64 0) ∧ w = w' := by
  go_enter Try.func23, Try.ntmps23
  go_wp2_with fail
  go_ret
  exact ⟨rfl, rfl⟩
set_option maxRecDepth 20000 in
theorem closed_nil {w : World} : Calls Try.prog 24 #[.pointer none] w fun e w' => e = .returned (.bool true) ∧ w = w' := by
  go_enter Try.func24, Try.ntmps24
  go_wp2_with fail
  go_ret
  exact ⟨rfl, rfl⟩
end Go.Proofs.Ytgbkbhklgbjgmaa.rcd
