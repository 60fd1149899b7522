/- Layer 4: SealLong, the walk. -/
import Derived.Test.YtjffhlhpapjnnaaGSeal
import Derived.Test.YtjffhlhpapjnnaaGCore
namespace Go.Proofs.Ytjffhlhpapjnnaa
open Go Go.Xr Go.RowKit Go.Proofs.Ytjffhlhpapjnnaa.aes
set_option linter.unusedVariables false
set_option linter.unusedSimpArgs false
theorem and_3 (n : Int) : ∃ k : Nat, k ≤ 3 ∧ ∀ t, binOp .and t (.int .i64 n) (.int .i64 3) = pure (.int .i64 (k : Int)) := by
  refine ⟨(BitVec.ofInt 64 n &&& BitVec.ofInt 64 3).toNat, ?_, fun t => ?_⟩
  · rw [BitVec.toNat_and]
    exact Nat.and_le_right
  · have h : (BitVec.ofInt 64 n &&& BitVec.ofInt 64 3).toNat ≤ 3 := by
      rw [BitVec.toNat_and]
      exact Nat.and_le_right
    have e : IntKind.i64.wrap ((BitVec.ofInt 64 n &&& BitVec.ofInt 64 3).toNat : Int) = ((BitVec.ofInt 64 n &&& BitVec.ofInt 64 3).toNat : Int) := IntWalk.i64_in _ ⟨by omega, by omega⟩
    exact congrArg (fun x => (pure (Value.int .i64 x) : Sem Value)) e

set_option maxRecDepth 20000 in
set_option maxHeartbeats 1000000 in
theorem long_walk {w : World} (more : Int) : Calls Try.prog 5 #[.int .i64 more] w fun e w' => e = .returned (.bool true) ∧ Fr [] w w' := by
  obtain ⟨k, hk, hand⟩ := and_3 more
  obtain ⟨i5, hi5, hz5, hs5, hb5⟩ := inf5
  have Hi := hid hi5
  have Hz := hid hz5
  have Hs := hid hs5
  have Hb := hid hb5
  have hC : keyCS.size = 16 := keyC_size _ _
  have hM : keyMS.size = 32 := keyM_size _ _
  have hq : mastS.size = 32 := mastS_size
  have H1 := hid fun w0 : World => keys_any (w := w0) mastS xN hq (by decide)
  rw [show keyC mastS xN = keyCS from rfl, show keyM mastS xN = keyMS from rfl] at H1
  have H2 : Hid (∀ (w0 : World) (Z : ByteArray), 1048576 < Z.size → Z.size ≤ 9223372036854775807 → Calls Try.prog 15 #[.agg #[.string keyCS, .string keyMS], .int .u64 1, .string xN, .string Z] w0 fun e w' => e = .returned (.tuple #[.string ⟨#[]⟩, .int .i64 4]) ∧ Fr [] w0 w') := hid fun w0 Z h1 h2 => by
    have := seal_any (w := w0) keyCS keyMS xN Z 1 (by omega) (by omega) h2 (by decide)
    rw [show sealR keyCS keyMS (n8 1) xN Z = ⟨#[]⟩ by simp [sealR, mayS, hC, hM]; omega, show sealE keyCS keyMS Z = 4 by simp [sealE, mayS, hC, hM]; omega] at this
    exact this
  have H3 : Hid (∀ (w0 : World) (Z : ByteArray), 1048616 < Z.size → Z.size ≤ 9223372036854775807 → Calls Try.prog 17 #[.agg #[.string keyCS, .string keyMS], .string xN, .string Z] w0 fun e w' => (∃ r, e = .returned (.tuple #[.string r, .int .i64 7])) ∧ Fr [] w0 w') := hid fun w0 Z h1 h2 => by
    have := open_any (w := w0) keyCS keyMS xN Z (by omega) (by omega) h2 (by decide)
    rw [show openE keyCS keyMS xN Z = 7 by simp [openE, openB, mayS, hC, hM]; omega] at this
    exact this.mono fun e w' ⟨h1, h2⟩ => ⟨⟨_, h1⟩, h2⟩
  generalize keyCS = C at H1 H2 H3
  generalize keyMS = M at H1 H2 H3
  obtain ⟨n, hn⟩ : ∃ n, 1048577 + k = n := ⟨_, rfl⟩
  obtain ⟨L, hL⟩ : ∃ L : List UInt8, List.replicate n 0 = L := ⟨_, rfl⟩
  have HL := hid (show List.replicate n (bt 0) = bv L by rw [← hL, bv_replicate])
  have HLl := hid (show L.length = n by rw [← hL, List.length_replicate])
  have hni : (1048577 : Int) + (k : Int) = (n : Int) := by omega
  have Hn := hid (show 1048577 ≤ n ∧ n ≤ 1048580 by omega)
  obtain ⟨L4, hL4⟩ : ∃ L4 : List UInt8, List.replicate 40 0 = L4 := ⟨_, rfl⟩
  have HL4 := hid (show List.replicate 40 (bt 0) = bv L4 by rw [← hL4, bv_replicate])
  have HL4l := hid (show L4.length = 40 by rw [← hL4, List.length_replicate])
  have hn1 : n ≤ 1048580 := by omega
  clear hi5 hz5 hs5 hb5 hC hM hq hn hL hL4 hk
  go_enter Try.func5, Try.ntmps5
  go_wp2_with fail
  refine master_any.mono ?_
  rintro e w1 ⟨rfl, f1⟩
  go_wp2_with fail
  refine (H1.out _).mono ?_
  rintro e w2 ⟨rfl, f2⟩
  have g2 := (f1.trans' f2).alloc (.cells [Value.string C, Value.string M].toArray 23)
  have d2 := Blk.alloc w2 [Value.string C, Value.string M] 23
  have hLs : (⟨L.toArray⟩ : ByteArray).size = n := by rw [size_mk', HLl.out]
  go_wp2_with (first
    | (refine wpList_make1 rfl _ _ _ rfl n n .i64 .i64 rfl rfl 5 _ _ 1 Try.underlying46 Hi.out Hz.out Hs.out Hb.out rfl (Nat.le_refl _) (by omega) (by omega) ?_; intro w3 f3 hlt3 ho3; rw [HL.out] at ho3; rw [World.size_alloc] at ho3; have b3 := f3.blk d2 (by simp); have k30 := b3.cell 0; have k31 := b3.cell 1; simp only [World.size_alloc, World.size_drew, Act.put, List.setIfInBounds_toArray, List.set_cons_succ, List.set_cons_zero])
    | (refine wpList_string_of_own rfl 46 9 5 _ rfl rfl ho3 Try.underlying46 Try.underlying5 Try.underlying9 ?_; simp only [World.size_alloc, World.size_drew, Act.put, List.setIfInBounds_toArray, List.set_cons_succ, List.set_cons_zero]))
  refine (H2.out _ ⟨L.toArray⟩ (by have := Hn.out; omega) (by omega)).mono ?_
  rintro e w4 ⟨rfl, f4⟩
  have b4 := f4.blk b3 (by simp)
  have ho4 := ho3.keep f4 (by simp)
  have g4 := (g2.trans' f3).trans' f4
  clear k30 k31 b3 ho3 f3 f4 d2 g2 f1 f2 hlt3
  go_wp2_with fail
  obtain ⟨D, hD⟩ : ∃ D : ByteArray, ⟨L.toArray⟩ = D := ⟨_, rfl⟩
  have hS4 : ∀ {w0 : World}, Xr.Own w0 1 (.slice (some ⟨w2.heap.size + 1, 0, none⟩) n n) n (bv L) (some (w2.heap.size + 1)) → (convert 46 9 (.slice (some ⟨w2.heap.size + 1, 0, none⟩) n n)).run Try.prog w0 = .ok (.string D) w0 := fun h => by
    rw [← hD]
    exact run_string_of_own _ _ _ 5 h Try.underlying46 Try.underlying5 Try.underlying9
  have HS4 := hid fun w0 : World => @hS4 w0
  have hDs : D.size = n := by rw [← hD]; exact hLs
  have hb4 := b4.drew
  have hq4 : Xr.Own w4.drew 1 (.slice (some ⟨w2.heap.size + 1, 0, none⟩) n n) n (bv L) (some (w2.heap.size + 1)) := ho4.keep ((Fr.refl [] w4).drew) (by simp)
  have HDs := hid hDs
  have hD1 : D.size ≤ 1048580 := by omega
  clear hS4 hD b4 ho4 hLs hDs
  refine wp_region_D (fun w' => Blk w' w2.heap.size [.string C, .string M] ∧ Xr.Own w' 1 (.slice (some ⟨w2.heap.size + 1, 0, none⟩) n n) n (bv L) (some (w2.heap.size + 1))) false [] (by kernel_rfl) ?_
  refine WD.free [1] (by kernel_rfl) ⟨hb4, hq4⟩ ?_
  simp only [pick, List.toList_toArray, List.map_cons, List.map_nil, List.getD_cons_succ, List.getD_cons_zero]
  repeat (first | (refine quiet_load_aggW (by rfl) _ _ rfl rfl [.string C, .string M] (fun _ h => h.1) _ Try.underlying23 rfl keyT rfl ?_; simp only [World.size_alloc, World.size_drew, Act.put, List.setIfInBounds_toArray, List.set_cons_succ, List.set_cons_zero]) | (refine quiet_conv_v (by rfl) _ _ _ rfl _ rfl (.string D) (fun w0 h => HS4.out w0 h.2) ?_; simp only [World.size_alloc, World.size_drew, Act.put, List.setIfInBounds_toArray, List.set_cons_succ, List.set_cons_zero]) | (refine quiet_conv_v (by rfl) _ _ _ rfl _ rfl (.string D4) (fun w0 h => by cases h; exact HS5.out) ?_; simp only [World.size_alloc, World.size_drew, Act.put, List.setIfInBounds_toArray, List.set_cons_succ, List.set_cons_zero]) | go_big_quiet_step (fail))
  refine wpQuiet_nil ?_
  refine WD.held [0, 2] (by kernel_rfl) ⟨hb4, hq4⟩ ?_
  simp only [pick, List.toList_toArray, List.map_cons, List.map_nil, List.getD_cons_succ, List.getD_cons_zero]
  repeat (first | (refine quiet_load_aggW (by rfl) _ _ rfl rfl [.string C, .string M] (fun _ h => h.1) _ Try.underlying23 rfl keyT rfl ?_; simp only [World.size_alloc, World.size_drew, Act.put, List.setIfInBounds_toArray, List.set_cons_succ, List.set_cons_zero]) | (refine quiet_conv_v (by rfl) _ _ _ rfl _ rfl (.string D) (fun w0 h => HS4.out w0 h.2) ?_; simp only [World.size_alloc, World.size_drew, Act.put, List.setIfInBounds_toArray, List.set_cons_succ, List.set_cons_zero]) | (refine quiet_conv_v (by rfl) _ _ _ rfl _ rfl (.string D4) (fun w0 h => by cases h; exact HS5.out) ?_; simp only [World.size_alloc, World.size_drew, Act.put, List.setIfInBounds_toArray, List.set_cons_succ, List.set_cons_zero]) | go_big_quiet_step (fail))
  refine wpQuiet_nil ?_
  refine WD.eff 3 (by kernel_rfl) ?_
  simp only [pick, List.toList_toArray, List.map_cons, List.map_nil, List.getD_cons_succ, List.getD_cons_zero]
  refine wpList_make1 rfl _ _ _ rfl 40 40 .i64 .i64 rfl rfl 5 _ _ 1 Try.underlying46 Hi.out Hz.out Hs.out Hb.out rfl (Nat.le_refl _) (by decide) (by decide) ?_
  intro w5 f5 hlt5 ho5
  rw [HL4.out] at ho5
  simp only [World.size_alloc, World.size_drew, Act.put, List.setIfInBounds_toArray, List.set_cons_succ, List.set_cons_zero]
  have hb5 := f5.blk hb4 (by simp)
  have hq5 := hq4.keep f5 (by simp)
  obtain ⟨D4, hD4⟩ : ∃ D4 : ByteArray, ⟨L4.toArray⟩ = D4 := ⟨_, rfl⟩
  have hD4s : D4.size ≤ 40 := by rw [← hD4, size_mk', HL4l.out]; exact Nat.le_refl _
  have HD4s := hid (show D4.size = 40 by rw [← hD4, size_mk', HL4l.out])
  have HS5 := hid (show (convert 46 9 (.slice (some ⟨w4.heap.size, 0, none⟩) 40 40)).run Try.prog w5 = .ok (.string D4) w5 by
    rw [← hD4]
    exact run_string_of_own _ _ _ 5 ho5 Try.underlying46 Try.underlying5 Try.underlying9)
  clear hD4 ho5
  try refine wpList_nil ?_
  refine AfterD.on ⟨hb5, hq5⟩ (by kernel_rfl) ?_
  try simp only [World.size_alloc, World.size_drew, Act.put, List.setIfInBounds_toArray, List.set_cons_succ, List.set_cons_zero]
  refine WD.pure [4, 5] (by kernel_rfl) ⟨hb5, hq5⟩ ?_
  simp only [pick, List.toList_toArray, List.map_cons, List.map_nil, List.getD_cons_succ, List.getD_cons_zero]
  repeat (first | (refine quiet_load_aggW (by rfl) _ _ rfl rfl [.string C, .string M] (fun _ h => h.1) _ Try.underlying23 rfl keyT rfl ?_; simp only [World.size_alloc, World.size_drew, Act.put, List.setIfInBounds_toArray, List.set_cons_succ, List.set_cons_zero]) | (refine quiet_conv_v (by rfl) _ _ _ rfl _ rfl (.string D) (fun w0 h => HS4.out w0 h.2) ?_; simp only [World.size_alloc, World.size_drew, Act.put, List.setIfInBounds_toArray, List.set_cons_succ, List.set_cons_zero]) | (refine quiet_conv_v (by rfl) _ _ _ rfl _ rfl (.string D4) (fun w0 h => by cases h; exact HS5.out) ?_; simp only [World.size_alloc, World.size_drew, Act.put, List.setIfInBounds_toArray, List.set_cons_succ, List.set_cons_zero]) | go_big_quiet_step (fail))
  refine wpQuiet_nil ?_
  refine WD.eff 6 (by kernel_rfl) ?_
  simp only [pick, List.toList_toArray, List.map_cons, List.map_nil, List.getD_cons_succ, List.getD_cons_zero]
  go_wp2_with fail
  refine (H3.out _ (D ++ D4) (by rw [ByteArray.size_append, HDs.out, HD4s.out]; have := Hn.out; omega) (by rw [ByteArray.size_append]; omega)).mono ?_
  rintro e w6 ⟨⟨r, rfl⟩, f6⟩
  go_wp2_with fail
  try refine wpList_nil ?_
  refine AfterD.on ⟨f6.blk hb5 (by simp), hq5.keep f6 (by simp)⟩ (by kernel_rfl) ?_
  try simp only [World.size_alloc, World.size_drew, Act.put, List.setIfInBounds_toArray, List.set_cons_succ, List.set_cons_zero]
  refine WD.pure [7, 8, 9, 10, 11] (by kernel_rfl) ⟨f6.blk hb5 (by simp), hq5.keep f6 (by simp)⟩ ?_
  simp only [pick, List.toList_toArray, List.map_cons, List.map_nil, List.getD_cons_succ, List.getD_cons_zero]
  repeat (first | (refine quiet_load_aggW (by rfl) _ _ rfl rfl [.string C, .string M] (fun _ h => h.1) _ Try.underlying23 rfl keyT rfl ?_; simp only [World.size_alloc, World.size_drew, Act.put, List.setIfInBounds_toArray, List.set_cons_succ, List.set_cons_zero]) | (refine quiet_conv_v (by rfl) _ _ _ rfl _ rfl (.string D) (fun w0 h => HS4.out w0 h.2) ?_; simp only [World.size_alloc, World.size_drew, Act.put, List.setIfInBounds_toArray, List.set_cons_succ, List.set_cons_zero]) | (refine quiet_conv_v (by rfl) _ _ _ rfl _ rfl (.string D4) (fun w0 h => by cases h; exact HS5.out) ?_; simp only [World.size_alloc, World.size_drew, Act.put, List.setIfInBounds_toArray, List.set_cons_succ, List.set_cons_zero]) | go_big_quiet_step (fail))
  refine wpQuiet_nil ?_
  refine WD.done (by kernel_rfl) ?_
  go_wp2_with fail
  refine alive_any.mono ?_
  rintro e w7 ⟨rfl, f7⟩
  go_wp2_with fail
  go_ret
  exact ⟨rfl, (((g4.drew).trans' f5).trans' f6).trans' f7⟩
end Go.Proofs.Ytjffhlhpapjnnaa
