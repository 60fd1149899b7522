/- Layer 21, record: a text padded. -/
import Derived.Test.YtneoagelcjfanaaGreatDoorRecA
namespace Go.Xr
open Go
set_option linter.unusedVariables false
theorem pad_splice (s : List UInt8) (n : Nat) (h : s.length + 4 ≤ n) (A : List UInt8) (hA : A.length = 4) (he : leN s.length 4 = A) :
    splice (splice (bv (List.replicate n 0)) 0 (bv A)) 4 (bv s) = bv (padB s n) := by
  have e1 : splice (bv (List.replicate n 0)) 0 (bv A) = bv (A ++ List.replicate (n - 4) 0) := by
    simp [splice, bv_replicate, hA]
  rw [e1]
  unfold splice padB
  rw [he, bv_take, bv_drop, bv_length, List.take_append_of_le_length (by omega), List.take_of_length_le (by omega), List.drop_append, List.drop_eq_nil_of_le (by omega), List.nil_append, hA, List.drop_replicate, ← bv_append, ← bv_append]
  congr 3
  omega
end Go.Xr
namespace Go.Proofs.YtneoagelcjfanaaGreatDoor.rcd
open Go Go.Xr Go.RowKit
set_option linter.unusedVariables false
set_option linter.unusedSimpArgs false
def padS (s : ByteArray) (n : Nat) : ByteArray := ⟨(padB s.data.toList n).toArray⟩
set_option maxRecDepth 20000 in
theorem sz1 : (Tryz.prog.info? 5).map (·.size) = some 1 := rfl
theorem toNat32 (m : Nat) (h : m ≤ 16384) : (UInt32.ofNat m).toNat = m := by
  rw [UInt32.toNat_ofNat']
  omega
theorem toNat64 (m : Nat) (h : m ≤ 16384) : (UInt64.ofNat m).toNat = m := by
  rw [UInt64.toNat_ofNat']
  omega

set_option maxRecDepth 20000 in
theorem cpad_any {w : World} (s : ByteArray) (n : Nat) (h : s.size + 4 ≤ n) (h64 : 64 ≤ n) (hn : n ≤ 16384) : Calls Tryz.prog 45 #[.string s, .int .i64 (n : Int)] w fun e w' => e = .returned (.tuple #[.string (padS s n), .int .i64 0]) ∧ Fr [] w w' := by
  obtain ⟨i5, hi5, hz5, hs5, hb5⟩ := infB8
  have Hi := hid hi5
  have Hz := hid hz5
  have Hs := hid hs5
  have Hb := hid hb5
  clear hi5 hz5 hs5 hb5
  have hd1 : decide ((n : Int) < 4) = false := by simp; omega
  have hd2 : decide ((n : Int) - 4 < (s.size : Int)) = false := by simp; omega
  obtain ⟨x, hx⟩ : ∃ x, UInt32.ofNat s.size = x := ⟨_, rfl⟩
  have hcv : ∀ w0 : World, (convert 3 75 (.int .i64 (s.size : Int))).run Tryz.prog w0 = .ok (W32 x) w0 := fun w0 => by
    have e : Value.int .u32 (IntKind.u32.wrap (s.size : Int)) = W32 x := by
      rw [← hx, val_u32, toNat32 _ (by omega)]
      congr 1
      simp [IntKind.wrap, IntKind.bits, IntKind.signed]
      omega
    simp only [convert, Sem.run_bind, run_underlying Tryz.underlying3, run_underlying Tryz.underlying75, Result.andThen_ok, Conv.intToInt, e, Sem.run_pure]
  obtain ⟨A, hA⟩ : ∃ A, leN x.toNat 4 = A := ⟨_, rfl⟩
  have hAl : A.length = 4 := by rw [← hA, leN_len]
  have Hu := hid fun w0 : World => u32_any (w := w0) x
  rw [hA] at Hu
  obtain ⟨D, hD⟩ : ∃ D : ByteArray, ⟨A.toArray⟩ = D := ⟨_, rfl⟩
  have HDs := hid (show D.size = 4 by rw [← hD, size_mk', hAl])
  have HDl := hid (show D.data.toList.take 4 = A by rw [← hD]; exact List.take_of_length_le (by rw [hAl]; exact Nat.le_refl _))
  have Hsp := hid (show (splice (bv (List.replicate n 0)) 0 (bv A)).length = n by rw [splice_length _ _ _ (by simp [hAl]; omega)]; simp)
  have hn4 : ¬ n = 4 := by omega
  rw [hD] at Hu
  have Hfin := hid (pad_splice s.data.toList n (by rw [bytes_len]; exact h) A hAl (by rw [bytes_len, ← hA, ← hx, toNat32 _ (by omega)]))
  have HsL := hid (show s.data.toList.take s.size = s.data.toList by rw [← bytes_len, List.take_length])
  have HP := hid (padB_len s.data.toList n (by rw [bytes_len]; exact h))
  have h4 : 4 ≤ n := by omega
  have Hh := hid h
  unfold padS
  clear hx hA hD hAl h
  go_enter Tryz.func45, Tryz.ntmps45
  go_wp2_with (refine wpList_make_blk rfl _ _ _ rfl n n .i64 .i64 rfl rfl 5 _ _ 1 Tryz.underlying67 Hi.out Hz.out Hs.out Hb.out rfl (Nat.le_refl _) (by omega) (by omega) ?_; intro w1 f1 hlt1 hb1; simp only [World.size_alloc, World.size_drew, Act.put, List.setIfInBounds_toArray, List.set_cons_succ, List.set_cons_zero])
  refine (Hu.out _).mono ?_
  rintro e w2 ⟨rfl, f2⟩
  have hb2 : Blk w2 w.heap.size (bv (List.replicate n 0)) := by rw [bv_replicate]; exact f2.blk hb1 (by simp)
  have g2 := f1.trans' f2
  clear hb1 f1 f2
  go_wp2_with (first
    | (refine wpList_copy_str rfl _ _ 5 _ _ rfl n n D 4 (by rw [HDs.out]; exact Nat.min_eq_left (by omega)) rfl rfl hb2 Tryz.underlying67 sz1 (by rw [bv_length, List.length_replicate]; omega) ?_; intro w3 f3 hb3 hs3; rw [HDl.out] at hb3; simp only [World.size_alloc, World.size_drew, Act.put, List.setIfInBounds_toArray, List.set_cons_succ, List.set_cons_zero])
    | (refine wpList_copy_str rfl _ _ 5 _ _ rfl (n - 4) (n - 4) s s.size (Nat.min_eq_left (by have := Hh.out; omega)) rfl rfl hb3 Tryz.underlying67 sz1 (by rw [Hsp.out]; have := Hh.out; omega) ?_; intro w4 f4 hb4 hs4; rw [HsL.out, Hfin.out] at hb4; simp only [World.size_alloc, World.size_drew, Act.put, List.setIfInBounds_toArray, List.set_cons_succ, List.set_cons_zero])
    | (refine wpList_string_of_bytes rfl 67 9 5 _ rfl n n rfl hb4 (padB s.data.toList n) HP.out (by rw [List.drop_zero, ← bv_length, List.take_length]) Tryz.underlying67 Tryz.underlying5 Tryz.underlying9 ?_; simp only [World.size_alloc, World.size_drew, Act.put, List.setIfInBounds_toArray, List.set_cons_succ, List.set_cons_zero]))
  go_ret2
  exact ⟨rfl, (g2.trans f3 (by simp)).trans f4 (by simp)⟩

set_option maxRecDepth 20000 in
theorem rpad_any {w : World} (s : ByteArray) (n : Nat) (h : s.size + 4 ≤ n) (h64 : 64 ≤ n) (hn : n ≤ 16384) : Calls Tryz.prog 50 #[.string s, .int .i64 (n : Int)] w fun e w' => e = .returned (.tuple #[.string (padS s n), .int .i64 0]) ∧ Fr [] w w' := by
  obtain ⟨i5, hi5, hz5, hs5, hb5⟩ := infB8
  have Hi := hid hi5
  have Hz := hid hz5
  have Hs := hid hs5
  have Hb := hid hb5
  clear hi5 hz5 hs5 hb5
  have hd1 : decide ((n : Int) < 4) = false := by simp; omega
  have hd2 : decide ((n : Int) - 4 < (s.size : Int)) = false := by simp; omega
  obtain ⟨x, hx⟩ : ∃ x, UInt64.ofNat s.size = x := ⟨_, rfl⟩
  have hcv : ∀ w0 : World, (convert 3 22 (.int .i64 (s.size : Int))).run Tryz.prog w0 = .ok (W64 x) w0 := fun w0 => by
    have e : Value.int .u64 (IntKind.u64.wrap (s.size : Int)) = W64 x := by
      rw [← hx, val_u64, toNat64 _ (by omega)]
      congr 1
      simp [IntKind.wrap, IntKind.bits, IntKind.signed]
      omega
    simp only [convert, Sem.run_bind, run_underlying Tryz.underlying3, run_underlying Tryz.underlying22, Result.andThen_ok, Conv.intToInt, e, Sem.run_pure]
  obtain ⟨k, hk⟩ : ∃ k : Nat, n - 4 - s.size = k := ⟨_, rfl⟩
  have hki : (n : Int) - 4 - (s.size : Int) = (k : Int) := by omega
  obtain ⟨A, hA⟩ : ∃ A, leN x.toNat 4 = A := ⟨_, rfl⟩
  have hAl : A.length = 4 := by rw [← hA, leN_len]
  have Hu := hid fun w0 : World => num_any (w := w0) x 4 (by decide)
  rw [hA] at Hu
  obtain ⟨D, hD⟩ : ∃ D : ByteArray, ⟨A.toArray⟩ = D := ⟨_, rfl⟩
  have hDs : D.size ≤ 4 := by rw [← hD, size_mk', hAl]; exact Nat.le_refl _
  rw [hD] at Hu
  obtain ⟨Z, hZ⟩ : ∃ Z : List UInt8, List.replicate k 0 = Z := ⟨_, rfl⟩
  have HZ := hid (show List.replicate k (bt 0) = bv Z by rw [← hZ, bv_replicate])
  have HZl := hid (show Z.length = k by rw [← hZ, List.length_replicate])
  obtain ⟨ZS, hZS⟩ : ∃ ZS : ByteArray, ⟨Z.toArray⟩ = ZS := ⟨_, rfl⟩
  have HZS := hid hZS
  have hZs : ZS.size ≤ 16384 := by rw [← hZS, size_mk', HZl.out]; omega
  have hF : (D ++ s) ++ ZS = padS s n := by
    apply ByteArray.ext
    apply Array.ext'
    rw [← hD, ← hZS, ← hZ, ← hA, ← hx, toNat64 _ (by omega)]
    have e : s.data.size = s.size := rfl
    simp [padS, padB, hk, e]
  have HF := hid hF
  have hs16 : s.size ≤ 16384 := by omega
  have hk16 : k ≤ 16384 := by omega
  have hDs2 : (D ++ s).size ≤ 16388 := by rw [ByteArray.size_append]; omega
  clear hx hA hD hAl h hk hZ hZS hF h64
  go_enter Tryz.func50, Tryz.ntmps50
  go_wp2_with fail
  have g0 := (Fr.refl [] w).drew
  refine wp_region_D (fun _ => True) false [] (by kernel_rfl) ?_
  refine WD.free [0, 4, 6, 7, 8] (by kernel_rfl) trivial ?_
  simp only [pick, List.toList_toArray, List.map_cons, List.map_nil, List.getD_cons_succ, List.getD_cons_zero]
  repeat (first | (refine quiet_conv_v (by rfl) _ _ _ rfl _ rfl (.string ZS) (fun w0 h => by cases h; exact HC.out) ?_; simp only [World.size_alloc, World.size_drew, Act.put, List.setIfInBounds_toArray, List.set_cons_succ, List.set_cons_zero]) | go_big_quiet_step (fail))
  refine wpQuiet_nil ?_
  refine WD.held [1, 2, 9] (by kernel_rfl) trivial ?_
  simp only [pick, List.toList_toArray, List.map_cons, List.map_nil, List.getD_cons_succ, List.getD_cons_zero]
  repeat (first | (refine quiet_conv_v (by rfl) _ _ _ rfl _ rfl (.string ZS) (fun w0 h => by cases h; exact HC.out) ?_; simp only [World.size_alloc, World.size_drew, Act.put, List.setIfInBounds_toArray, List.set_cons_succ, List.set_cons_zero]) | go_big_quiet_step (fail))
  refine wpQuiet_nil ?_
  refine WD.free [10] (by kernel_rfl) trivial ?_
  simp only [pick, List.toList_toArray, List.map_cons, List.map_nil, List.getD_cons_succ, List.getD_cons_zero]
  repeat (first | (refine quiet_conv_v (by rfl) _ _ _ rfl _ rfl (.string ZS) (fun w0 h => by cases h; exact HC.out) ?_; simp only [World.size_alloc, World.size_drew, Act.put, List.setIfInBounds_toArray, List.set_cons_succ, List.set_cons_zero]) | go_big_quiet_step (fail))
  refine wpQuiet_nil ?_
  refine WD.eff2 3 11 (by kernel_rfl) ?_ ?_
  all_goals simp only [pick, List.toList_toArray, List.map_cons, List.map_nil, List.getD_cons_succ, List.getD_cons_zero]
  · go_wp2_with fail
    refine (Hu.out _).mono ?_
    rintro e w1 ⟨rfl, f1⟩
    go_wp2_with fail
    try refine wpList_nil ?_
    refine AfterD.on trivial (by kernel_rfl) ?_
    try simp only [World.size_alloc, World.size_drew, Act.put, List.setIfInBounds_toArray, List.set_cons_succ, List.set_cons_zero]
    refine WD.free [5] (by kernel_rfl) trivial ?_
    simp only [pick, List.toList_toArray, List.map_cons, List.map_nil, List.getD_cons_succ, List.getD_cons_zero]
    repeat (first | (refine quiet_conv_v (by rfl) _ _ _ rfl _ rfl (.string ZS) (fun w0 h => by cases h; exact HC.out) ?_; simp only [World.size_alloc, World.size_drew, Act.put, List.setIfInBounds_toArray, List.set_cons_succ, List.set_cons_zero]) | go_big_quiet_step (fail))
    refine wpQuiet_nil ?_
    refine WD.eff 11 (by kernel_rfl) ?_
    simp only [pick, List.toList_toArray, List.map_cons, List.map_nil, List.getD_cons_succ, List.getD_cons_zero]
    refine wpList_make_blk rfl _ _ _ rfl k k .i64 .i64 rfl rfl 5 _ _ 1 Tryz.underlying67 Hi.out Hz.out Hs.out Hb.out rfl (Nat.le_refl _) (by omega) (by omega) ?_
    intro w2 f2 hlt2 hb2
    rw [HZ.out] at hb2
    have HC := hid (show (convert 67 9 (.slice (some ⟨w1.heap.size, 0, none⟩) k k)).run Tryz.prog w2 = .ok (.string ZS) w2 by
      have := run_string_of_bytes (P := Tryz.prog) w2 67 9 5 hb2 Z k (by rw [List.drop_zero, ← bv_length, List.take_length]) Tryz.underlying67 Tryz.underlying5 Tryz.underlying9
      rw [HZl.out, HZS.out] at this
      exact this)
    clear hb2
    try refine wpList_nil ?_
    refine AfterD.on trivial (by kernel_rfl) ?_
    try simp only [World.size_alloc, World.size_drew, Act.put, List.setIfInBounds_toArray, List.set_cons_succ, List.set_cons_zero]
    refine WD.pure [12, 13, 14, 15] (by kernel_rfl) trivial ?_
    simp only [pick, List.toList_toArray, List.map_cons, List.map_nil, List.getD_cons_succ, List.getD_cons_zero]
    repeat (first | (refine quiet_conv_v (by rfl) _ _ _ rfl _ rfl (.string ZS) (fun w0 h => by cases h; exact HC.out) ?_; simp only [World.size_alloc, World.size_drew, Act.put, List.setIfInBounds_toArray, List.set_cons_succ, List.set_cons_zero]) | go_big_quiet_step (fail))
    refine wpQuiet_nil ?_
    refine WD.done (by kernel_rfl) ?_
    go_wp2_with fail
    go_ret2
    rw [← HF.out]
    exact ⟨rfl, (g0.trans' f1).trans' f2⟩
  · refine wpList_make_blk rfl _ _ _ rfl k k .i64 .i64 rfl rfl 5 _ _ 1 Tryz.underlying67 Hi.out Hz.out Hs.out Hb.out rfl (Nat.le_refl _) (by omega) (by omega) ?_
    intro w2 f2 hlt2 hb2
    rw [HZ.out] at hb2
    simp only [World.size_alloc, World.size_drew, Act.put, List.setIfInBounds_toArray, List.set_cons_succ, List.set_cons_zero]
    have HCv := hid (show ∀ w0 : World, Blk w0 w.heap.size (bv Z) → (convert 67 9 (.slice (some ⟨w.heap.size, 0, none⟩) k k)).run Tryz.prog w0 = .ok (.string ZS) w0 from fun w0 hb => by
      have := run_string_of_bytes (P := Tryz.prog) w0 67 9 5 hb Z k (by rw [List.drop_zero, ← bv_length, List.take_length]) Tryz.underlying67 Tryz.underlying5 Tryz.underlying9
      rw [HZl.out, HZS.out] at this
      exact this)
    try refine wpList_nil ?_
    refine AfterD.on trivial (by kernel_rfl) ?_
    refine WD.eff2 3 12 (by kernel_rfl) ?_ ?_
    all_goals simp only [pick, List.toList_toArray, List.map_cons, List.map_nil, List.getD_cons_succ, List.getD_cons_zero]
    · go_wp2_with fail
      refine (Hu.out _).mono ?_
      rintro e w1 ⟨rfl, f1⟩
      have HC := hid (HCv.out w1 (f1.blk hb2 (by simp)))
      clear hb2
      go_wp2_with fail
      refine AfterD.on trivial (by kernel_rfl) ?_
      refine WD.pure [5, 12, 13, 14, 15] (by kernel_rfl) trivial ?_
      simp only [pick, List.toList_toArray, List.map_cons, List.map_nil, List.getD_cons_succ, List.getD_cons_zero]
      repeat (first | (refine quiet_conv_v (by rfl) _ _ _ rfl _ rfl (.string ZS) (fun w0 h => by cases h; exact HC.out) ?_; simp only [World.size_alloc, World.size_drew, Act.put, List.setIfInBounds_toArray, List.set_cons_succ, List.set_cons_zero]) | go_big_quiet_step (fail))
      refine wpQuiet_nil ?_
      refine WD.done (by kernel_rfl) ?_
      go_wp2_with fail
      go_ret2
      rw [← HF.out]
      exact ⟨rfl, (g0.trans' f2).trans' f1⟩
    · refine wpList_string_of_bytes rfl 67 9 5 _ rfl k k rfl hb2 Z HZl.out (by rw [List.drop_zero, ← bv_length, List.take_length]) Tryz.underlying67 Tryz.underlying5 Tryz.underlying9 ?_
      rw [HZS.out]
      clear hb2
      simp only [World.size_alloc, World.size_drew, Act.put, List.setIfInBounds_toArray, List.set_cons_succ, List.set_cons_zero]
      refine wpList_nil ?_
      refine AfterD.quiet trivial rfl ?_
      refine WD.eff 3 (by kernel_rfl) ?_
      simp only [pick, List.toList_toArray, List.map_cons, List.map_nil, List.getD_cons_succ, List.getD_cons_zero]
      go_wp2_with fail
      refine (Hu.out _).mono ?_
      rintro e w1 ⟨rfl, f1⟩
      go_wp2_with fail
      refine AfterD.on trivial (by kernel_rfl) ?_
      refine WD.pure [5, 13, 14, 15] (by kernel_rfl) trivial ?_
      simp only [pick, List.toList_toArray, List.map_cons, List.map_nil, List.getD_cons_succ, List.getD_cons_zero]
      repeat (go_big_quiet_step (fail))
      refine wpQuiet_nil ?_
      refine WD.done (by kernel_rfl) ?_
      go_wp2_with fail
      go_ret2
      rw [← HF.out]
      exact ⟨rfl, (g0.trans' f2).trans' f1⟩
end Go.Proofs.YtneoagelcjfanaaGreatDoor.rcd
