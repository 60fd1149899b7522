/- Layer 4: SealStream, the walk. -/
import Derived.Test.YtjffhlhpapjnnaaGSeal
import Derived.Test.YtjffhlhpapjnnaaGSealTexts
import Derived.Test.YtjffhlhpapjnnaaGCore
namespace Go.Xr
open Go
set_option linter.unusedVariables false
theorem trnL_get (key nn l : List UInt8) (i : Nat) (hi : i < l.length) : g8 (trnL key nn l) i = g8 l i ^^^ strm (ciT key) (wide nn) i := turnL_get _ _ _ _ hi
theorem g8_right (a b : List UInt8) (i : Nat) : g8 (a ++ b) (a.length + i) = g8 b i := by
  unfold g8
  rw [List.getD_eq_getElem?_getD, List.getD_eq_getElem?_getD, List.getElem?_append_right (Nat.le_add_right _ _), Nat.add_sub_cancel_left]
theorem g8_left (a b : List UInt8) (i : Nat) (h : i < a.length) : g8 (a ++ b) i = g8 a i := by
  unfold g8
  rw [List.getD_eq_getElem?_getD, List.getD_eq_getElem?_getD, List.getElem?_append_left h]
theorem xor_same (a b k : UInt8) : (a ^^^ k) ^^^ (b ^^^ k) = a ^^^ b := by
  rw [show a ^^^ k ^^^ (b ^^^ k) = (a ^^^ b) ^^^ (k ^^^ k) by ac_rfl, UInt8.xor_self, UInt8.xor_zero]
end Go.Xr
namespace Go.Proofs.Ytjffhlhpapjnnaa
open Go Go.Xr Go.RowKit Go.Proofs.Ytjffhlhpapjnnaa.aes
set_option linter.unusedVariables false
set_option linter.unusedSimpArgs false
theorem sealT_get (c m nn label s : ByteArray) (hn : nn.size = 8) (i : Nat) (hi : i < s.size) : g8 (sealT c m nn label s).data.toList (8 + i) = g8 s.data.toList i ^^^ strm (ciT c.data.toList) (wide nn.data.toList) i := by
  rw [sealT_list, show 8 + i = nn.data.toList.length + i by rw [ba_len, hn], g8_right, g8_left _ _ _ (by rw [trnL_len, ba_len]; exact hi), trnL_get _ _ _ _ (by rw [ba_len]; exact hi)]
theorem neg_u8 (t : TypeId) (x y : Operand) (a b : UInt8) : eqGuard .neq t x y (bt a) (bt b) = pure () := rfl
attribute [local go_sem] xor_u8 neq_u8 neg_u8

set_option maxRecDepth 20000 in
set_option maxHeartbeats 1000000 in
theorem stream_walk {w : World} (ms s t : ByteArray) (x : UInt64) (hm : ms.size ≤ 140737488351232) (hs : s.size ≤ 140737488351232) (ht : t.size ≤ 140737488351232) :
    Calls Try.prog 7 #[.string ms, .int .u64 (x.toNat : Int), .string s, .string t] w fun e w' => e = .returned (.bool true) ∧ Fr [] w w' := by
  rw [← val_u64]
  obtain ⟨n, hn⟩ : ∃ n : Nat, min (min s.size t.size) 500 = n := ⟨_, rfl⟩
  have hni : min (min (s.size : Int) (t.size : Int)) 500 = (n : Int) := by omega
  have hmin : ∀ (ts : Array TypeId) (ty : TypeId) (w0 : World), (Builtin.min_ ts ty #[.int .i64 (s.size : Int), .int .i64 (t.size : Int), .int .i64 500]).run Try.prog w0 = .ok (.int .i64 (n : Int)) w0 := fun ts ty w0 => by
    rw [run_min_int3]
    congr 2
    rw [← hni]
    split <;> split at * <;> omega
  have hns : n ≤ s.size := by omega
  have hnt : n ≤ t.size := by omega
  have hn5 : n ≤ 500 := by omega
  obtain ⟨s2, hs2⟩ : ∃ s2, s.extract 0 n = s2 := ⟨_, rfl⟩
  obtain ⟨t2, ht2⟩ : ∃ t2, t.extract 0 n = t2 := ⟨_, rfl⟩
  have hs2n : s2.size = n := by rw [← hs2]; simp; omega
  have ht2n : t2.size = n := by rw [← ht2]; simp; omega
  clear hn
  go_enter Try.func7, Try.ntmps7
  go_wp2_with fail
  refine wp_region_D (fun _ => True) false [] (by kernel_rfl) ?_
  refine WD.pure [0, 1, 2, 3, 4, 5, 6, 7] (by kernel_rfl) trivial ?_
  simp only [pick, List.toList_toArray, List.map_cons, List.map_nil, List.getD_cons_succ, List.getD_cons_zero]
  repeat (first | (refine quiet_slice_vW (by rfl) _ _ _ _ rfl _ rfl _ _ rfl rfl (.string s2) (fun w0 _ => by rw [← hs2]; exact run_slice_sh w0 _ Try.underlying9 s .i64 _ n rfl hns) ?_; simp only [World.size_alloc, World.size_drew, Act.put, List.setIfInBounds_toArray, List.set_cons_succ, List.set_cons_zero]) | (refine quiet_slice_vW (by rfl) _ _ _ _ rfl _ rfl _ _ rfl rfl (.string t2) (fun w0 _ => by rw [← ht2]; exact run_slice_sh w0 _ Try.underlying9 t .i64 _ n rfl hnt) ?_; simp only [World.size_alloc, World.size_drew, Act.put, List.setIfInBounds_toArray, List.set_cons_succ, List.set_cons_zero]) | go_big_quiet_step (fail))
  refine wpQuiet_nil ?_
  refine WD.done (by kernel_rfl) ?_
  have g0 := (Fr.refl [] w).drew
  clear hmin hni hs2 ht2
  go_wp2_with fail
  by_cases h32 : ms.size = 32
  case neg =>
    have hd : ((ms.size : Int) != 32) = true := by simp; omega
    refine (keys_bad ms xN h32 (by omega)).mono ?_
    rintro e w1 ⟨rfl, f1⟩
    have g1 := g0.trans' f1
    clear h32 f1 g0
    go_wp2_with fail
    refine alive_any.mono ?_
    rintro e w2 ⟨rfl, f2⟩
    go_wp2_with fail
    go_ret
    exact ⟨rfl, (g1.alloc _).trans' f2⟩
  case pos =>
    have hC := keyC_size ms xN
    have hM := keyM_size ms xN
    refine (keys_any ms xN h32 (by decide)).mono ?_
    rintro e w1 ⟨rfl, f1⟩
    generalize keyC ms xN = C at hC ⊢
    generalize keyM ms xN = M at hM ⊢
    have g1 := (g0.trans' f1).alloc (.cells [Value.string C, Value.string M].toArray 23)
    have b1 := Blk.alloc w1 [Value.string C, Value.string M] 23
    have Hsl := hid fun (w0 : World) => seal_good (w := w0) C M xN s2 x hC hM (by omega) (by decide)
    have Htl := hid fun (w0 : World) => seal_good (w := w0) C M xN t2 x hC hM (by omega) (by decide)
    obtain ⟨A, hA⟩ : ∃ A, sealT C M (n8 x) xN s2 = A := ⟨_, rfl⟩
    obtain ⟨B, hB⟩ : ∃ B, sealT C M (n8 x) xN t2 = B := ⟨_, rfl⟩
    have hAs : A.size = n + 40 := by rw [← hA, sealT_size, n8_size, hs2n]; omega
    have hBs : B.size = n + 40 := by rw [← hB, sealT_size, n8_size, ht2n]; omega
    have hA8 : A.extract 0 8 = n8 x := by rw [← hA, sealT_nonce _ _ _ _ _ (n8_size x)]
    have hB8 : B.extract 0 8 = n8 x := by rw [← hB, sealT_nonce _ _ _ _ _ (n8_size x)]
    have Hx := hid fun (i : Nat) (hi : i < n) => show g8 A.data.toList (8 + i) ^^^ g8 B.data.toList (8 + i) = g8 s2.data.toList i ^^^ g8 t2.data.toList i by
      rw [← hA, ← hB, sealT_get _ _ _ _ _ (n8_size x) i (by omega), sealT_get _ _ _ _ _ (n8_size x) i (by omega), xor_same]
    rw [hA] at Hsl
    rw [hB] at Htl
    have hA40 : ((A.size : Int) != (n : Int) + 40) = false := by simp; omega
    have hAB : ((A.size : Int) != (B.size : Int)) = false := by simp; omega
    have HA8 := hid hA8
    have HB8 := hid hB8
    have HAs := hid hAs
    have HBs := hid hBs
    have Hs2n := hid hs2n
    have Ht2n := hid ht2n
    have Hn8 := hid (show (A.extract 0 8).toList = (B.extract 0 8).toList by rw [hA8, hB8])
    have hA8s : 8 ≤ A.size := by omega
    have hB8s : 8 ≤ B.size := by omega
    clear hA hB hC hM hA8 hB8 hAs hBs hs2n ht2n h32 g0 f1
    go_wp2_with fail
    refine (Hsl.out _).mono ?_
    rintro e w2 ⟨rfl, f2⟩
    have b2 := f2.blk b1 (by simp)
    have k20 := b2.cell 0
    have k21 := b2.cell 1
    have g2 := g1.trans' f2
    clear b1 g1 f2
    go_wp2_with fail
    refine (Htl.out _).mono ?_
    rintro e w3 ⟨rfl, f3⟩
    have g3 := g2.trans' f3
    clear b2 k20 k21 g2 f3
    go_wp2_with fail
    obtain ⟨q, hq⟩ : ∃ q, A.extract 0 8 = q := ⟨_, rfl⟩
    refine wp_region_D (fun _ => True) false [] (by kernel_rfl) ?_
    refine WD.pure [0, 1, 2, 3, 4, 5, 6, 7, 8, 9, 10, 11, 12, 13, 14, 15, 16, 17, 18, 19, 20, 21, 22, 23, 24, 25, 26] (by kernel_rfl) trivial ?_
    simp only [pick, List.toList_toArray, List.map_cons, List.map_nil, List.getD_cons_succ, List.getD_cons_zero]
    repeat (first | (refine quiet_slice_vW (by rfl) _ _ _ _ rfl _ rfl _ _ rfl rfl (.string q) (fun w0 _ => by rw [← hq]; exact run_slice_sh w0 _ Try.underlying9 A .i64 8 8 rfl hA8s) ?_; simp only [World.size_alloc, World.size_drew, Act.put, List.setIfInBounds_toArray, List.set_cons_succ, List.set_cons_zero]) | (refine quiet_slice_vW (by rfl) _ _ _ _ rfl _ rfl _ _ rfl rfl (.string q) (fun w0 _ => by rw [← hq, HA8.out, ← HB8.out]; exact run_slice_sh w0 _ Try.underlying9 B .i64 8 8 rfl hB8s) ?_; simp only [World.size_alloc, World.size_drew, Act.put, List.setIfInBounds_toArray, List.set_cons_succ, List.set_cons_zero]) | go_big_quiet_step (fail))
    refine wpQuiet_nil ?_
    refine WD.done (by kernel_rfl) ?_
    have g4 := g3.drew
    clear hA40 hAB hA8s hB8s g3 hq
    go_wp2_with fail
    go_loopw [16] (fun iv wr => ∃ i : Nat, i ≤ n ∧ iv = .int .i64 i ∧ Fr [] w wr) (fun iv _ => n - (intOf iv).toNat)
    case atStart => exact ⟨0, by omega, rfl, g4⟩
    case round =>
      obtain ⟨i, hi, rfl, f⟩ := hrel
      clear g4
      by_cases hli : i < n
      · have hd : decide (i < n) = true := by simp; omega
        obtain ⟨X1, hX1⟩ : ∃ X1, g8 A.data.toList (8 + i) = X1 := ⟨_, rfl⟩
        obtain ⟨X2, hX2⟩ : ∃ X2, g8 B.data.toList (8 + i) = X2 := ⟨_, rfl⟩
        obtain ⟨X3, hX3⟩ : ∃ X3, g8 s2.data.toList i = X3 := ⟨_, rfl⟩
        obtain ⟨X4, hX4⟩ : ∃ X4, g8 t2.data.toList i = X4 := ⟨_, rfl⟩
        have hne : ((X1 ^^^ X2) != (X3 ^^^ X4)) = false := by rw [← hX1, ← hX2, ← hX3, ← hX4, Hx.out i hli]; simp
        have i1 : ∀ w0 : World, (Instr.index 9 (.string A) (.int .i64 (8 + (i : Int)))).run Try.prog w0 = .ok (bt X1) w0 := fun w0 => by
          rw [← hX1]
          exact index_str (P := Try.prog) w0 9 A .i64 (8 + (i : Int)) (8 + i) Try.underlying9 (by omega) (by rw [HAs.out]; omega) 0
        have i2 : ∀ w0 : World, (Instr.index 9 (.string B) (.int .i64 (8 + (i : Int)))).run Try.prog w0 = .ok (bt X2) w0 := fun w0 => by
          rw [← hX2]
          exact index_str (P := Try.prog) w0 9 B .i64 (8 + (i : Int)) (8 + i) Try.underlying9 (by omega) (by rw [HBs.out]; omega) 0
        have i3 : ∀ w0 : World, (Instr.index 9 (.string s2) (.int .i64 (i : Int))).run Try.prog w0 = .ok (bt X3) w0 := fun w0 => by
          rw [← hX3]
          exact index_str (P := Try.prog) w0 9 s2 .i64 i i Try.underlying9 rfl (by rw [Hs2n.out]; exact hli) 0
        have i4 : ∀ w0 : World, (Instr.index 9 (.string t2) (.int .i64 (i : Int))).run Try.prog w0 = .ok (bt X4) w0 := fun w0 => by
          rw [← hX4]
          exact index_str (P := Try.prog) w0 9 t2 .i64 i i Try.underlying9 rfl (by rw [Ht2n.out]; exact hli) 0
        have hi500 : (i : Int) ≤ 500 := by omega
        clear hX1 hX2 hX3 hX4
        go_wp2_with fail
        refine wp_region_D (fun _ => True) false [] (by kernel_rfl) ?_
        refine WD.pure [0, 1, 2, 3, 4, 5, 6, 7, 8, 9, 10, 11, 12, 13, 14, 15, 16] (by kernel_rfl) trivial ?_
        simp only [pick, List.toList_toArray, List.map_cons, List.map_nil, List.getD_cons_succ, List.getD_cons_zero]
        repeat (first | go_big_quiet_step (fail))
        refine wpQuiet_nil ?_
        refine WD.done (by kernel_rfl) ?_
        clear i1 i2 i3 i4
        go_wp2_with fail
        go_roundw
        case rel => exact ⟨i + 1, by omega, by go_num, f.drew⟩
        case measure => simp [intOf]; omega
      · have hd : decide (i < n) = false := by simp; omega
        go_wp2_with fail
        refine alive_any.mono ?_
        rintro e w5 ⟨rfl, f5⟩
        go_wp2_with fail
        go_ret
        exact ⟨rfl, f.trans' f5⟩
end Go.Proofs.Ytjffhlhpapjnnaa
