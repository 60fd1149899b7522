/- Layer 1: ShaRoots, the walk. -/
import Derived.Test.YtkohnmlnpbkphaaShaRts
namespace Go.Proofs.Ytkohnmlnpbkphaa
open Go Go.Xr Go.RowKit
set_option linter.unusedVariables false
set_option linter.unusedSimpArgs false
theorem eqg8 (op : BinOp) (t : TypeId) (x y : Operand) (a : UInt8) (n : Int) : eqGuard op t x y (bt a) (.int .u8 n) = pure () := by cases op <;> rfl
attribute [local go_sem] xor_u8 eql_u8_c eqg8
theorem uvs (l : List UInt32) : (l.map UInt32.toNat).map uv = w32s l := by
  rw [List.map_map]
  rfl
theorem w_at {w : World} {la : Option Addr} {n lc i : Nat} {l : List UInt32} {B : Option Nat} (h : Rc w 1 (.slice la n lc) n (w32s l) B) (hi : i < n) :
    ∃ lb off, la = some ⟨lb, off, none⟩ ∧ lb < w.heap.size ∧ ∃ (h : i < l.length), w.cell? ⟨lb, off + i, none⟩ = some (.int .u32 (l[i].toNat : Int)) := by
  have hn : l.length = n := by have := h.1; simpa [w32s] using this
  obtain ⟨b, off, c, hB, hv, h1, h2, h3, h4⟩ := h.some (by omega)
  obtain ⟨rfl, rfl⟩ : la = some ⟨b, off, none⟩ ∧ lc = c := by simpa using hv
  refine ⟨b, off, rfl, h3, by omega, ?_⟩
  rw [h4 i (by simp [w32s]; omega)]
  simp [w32s, show i < l.length by omega, W32]
theorem andI (n : Int) : ∃ k : Nat, ∀ t, binOp .and t (.int .i64 n) (.int .i64 16777215) = pure (.int .i64 (k : Int)) := by
  refine ⟨(BitVec.ofInt 64 n &&& BitVec.ofInt 64 16777215).toNat, fun t => ?_⟩
  have h : (BitVec.ofInt 64 n &&& BitVec.ofInt 64 16777215).toNat ≤ 16777215 := by
    rw [BitVec.toNat_and]
    exact Nat.and_le_right
  have e : IntKind.i64.wrap ((BitVec.ofInt 64 n &&& BitVec.ofInt 64 16777215).toNat : Int) = ((BitVec.ofInt 64 n &&& BitVec.ofInt 64 16777215).toNat : Int) := IntWalk.i64_in _ ⟨by omega, by omega⟩
  exact congrArg (fun x => (pure (Value.int .i64 x) : Sem Value)) e
set_option maxRecDepth 20000 in
set_option maxHeartbeats 4000000 in
theorem roots_walk {w : World} (s : ByteArray) (at_ : Int) (y : UInt8) (hs : s.size ≤ 9223372036854775807) : Calls Try.prog 4 #[.string s, .int .i64 at_, .int .u8 (y.toNat : Int)] w fun e w' => e = .returned (.bool true) ∧ Fr [] w w' := by
  rw [← val_u8]
  by_cases hy : y = 0
  case pos =>
    subst hy
    have H3 := hid fun w0 : World => roots_any (w := w0) 64 true _ roots3 (by decide) (by decide)
    have H2 := hid fun w0 : World => roots_any (w := w0) 8 false _ roots2 (by decide) (by decide)
    rw [uvs] at H3 H2
    have HK := hid (show K0.length = 64 by decide)
    have HB := hid (show B0.length = 8 by decide)
    obtain ⟨KL, hKL⟩ : ∃ KL, K0 = KL := ⟨_, rfl⟩
    obtain ⟨BL, hBL⟩ : ∃ BL, B0 = BL := ⟨_, rfl⟩
    have Hk := hid fun w0 : World => k_any (w := w0)
    have Hb := hid fun w0 : World => begin_any (w := w0)
    rw [hKL] at H3 HK Hk
    rw [hBL] at H2 HB Hb
    rw [show bt 0 = .int .u8 0 from rfl]
    clear hKL hBL
    go_enter Try.func4, Try.ntmps4
    go_wp2_with fail
    refine (Hk.out _).mono ?_
    rintro e w1 ⟨rfl, hk1, f1⟩
    have rk1 := rc_of_blk1 hk1 (by rw [show (w32s KL).length = KL.length by simp [w32s], HK.out]) (show 64 ≤ maxLen by decide)
    generalize w.heap.size = kb at rk1 hk1 ⊢
    go_wp2_with fail
    refine (Hb.out _).mono ?_
    rintro e w2 ⟨rfl, hb2, f2⟩
    have rb2 := rc_of_blk1 hb2 (by rw [show (w32s BL).length = BL.length by simp [w32s], HB.out]) (show 8 ≤ maxLen by decide)
    have rk2 := rk1.keep f2 (by simp)
    have g2 := f1.trans' f2
    clear hk1 hb2 f1 f2 rk1
    generalize w1.heap.size = bb at rb2 ⊢
    go_wp2_with fail
    refine (H3.out _).mono ?_
    rintro e w3 ⟨⟨u3, B3, rfl, r3⟩, f3⟩
    go_wp2_with fail
    refine (H2.out _).mono ?_
    rintro e w4 ⟨⟨u4, B4, rfl, r4⟩, f4⟩
    have r34 := r3.keep f4 (by simp)
    have rk4 := (rk2.keep f3 (by simp)).keep f4 (by simp)
    have rb4 := (rb2.keep f3 (by simp)).keep f4 (by simp)
    have g4 := (g2.trans' f3).trans' f4
    obtain ⟨a3, c3, rfl⟩ := r34.isSlice
    obtain ⟨a4, c4, rfl⟩ := r4.isSlice
    clear f3 f4 rk2 rb2 r3 g2
    go_wp2_with fail
    go_loopw [11] (fun iv wr => ∃ i : Nat, i ≤ 64 ∧ iv = .int .i64 i ∧ Fr [] w4 wr) (fun iv _ => 64 - (intOf iv).toNat)
    case atStart => exact ⟨0, by omega, rfl, Fr.refl _ _⟩
    case round =>
      obtain ⟨i, hi, rfl, f⟩ := hrel
      by_cases hlt : i < 64
      case neg =>
        have h1 : decide ((i : Int) < 64) = false := by simp; omega
        have h1' : decide (i < 64) = false := by simp; omega
        go_wp2_with fail
        refine alive_any.mono ?_
        rintro e w5 ⟨rfl, f5⟩
        go_wp2_with fail
        go_ret
        exact ⟨rfl, (g4.trans' f).trans' f5⟩
      case pos =>
        have h1 : decide ((i : Int) < 64) = true := by simp; omega
        have h1' : decide (i < 64) = true := by simp; omega
        have fd := f.drew
        obtain ⟨xb, xo, hxe, _, hil, hxc⟩ := w_at (r34.keep fd (by simp)) hlt
        obtain ⟨kb2, ko, hke, _, _, hkc⟩ := w_at (rk4.keep fd (by simp)) hlt
        obtain ⟨rfl, rfl⟩ : kb = kb2 ∧ 0 = ko := by simp at hke; exact hke
        subst hxe
        obtain ⟨V, hV⟩ : ∃ V, (KL[i]'hil).toNat = V := ⟨_, rfl⟩
        rw [hV] at hxc hkc
        rw [Nat.zero_add] at hkc
        clear hV hke
        by_cases hi8 : i < 8
        case neg =>
          have h2 : decide ((i : Int) < 8) = false := by simp; omega
          have h2' : decide (i < 8) = false := by simp; omega
          go_wp2_with fail
          refine wp_region_D (fun _ => True) false [] (by kernel_rfl) ?_
          refine WD.pure [0, 1, 2, 3, 4, 5, 6, 7, 8, 9, 10, 11, 12, 13, 14, 15, 16, 17, 18, 19, 20, 21, 22, 23] (by kernel_rfl) trivial ?_
          simp only [pick, List.toList_toArray, List.map_cons, List.map_nil, List.getD_cons_succ, List.getD_cons_zero]
          repeat (first | go_big_quiet_step (fail))
          refine wpQuiet_nil ?_
          refine WD.done (by kernel_rfl) ?_
          go_wp2_with fail
          go_roundw
          case rel => exact ⟨i + 1, by omega, by go_num, fd⟩
          case measure => simp [intOf]; omega
        case pos =>
          have h2 : decide ((i : Int) < 8) = true := by simp; omega
          have h2' : decide (i < 8) = true := by simp; omega
          obtain ⟨yb, yo, hye, _, hjl, hyc⟩ := w_at (r4.keep fd (by simp)) hi8
          obtain ⟨bb2, bo, hbe, _, _, hbc⟩ := w_at (rb4.keep fd (by simp)) hi8
          obtain ⟨rfl, rfl⟩ : bb = bb2 ∧ 0 = bo := by simp at hbe; exact hbe
          subst hye
          obtain ⟨U, hU⟩ : ∃ U, (BL[i]'hjl).toNat = U := ⟨_, rfl⟩
          rw [hU] at hyc hbc
          rw [Nat.zero_add] at hbc
          clear hU hbe
          go_wp2_with fail
          refine wp_region_D (fun _ => True) false [] (by kernel_rfl) ?_
          refine WD.pure [0, 1, 2, 3, 4, 5, 6, 7, 8, 9, 10, 11, 12, 13, 14, 15, 16, 17, 18, 19, 20, 21, 22, 23] (by kernel_rfl) trivial ?_
          simp only [pick, List.toList_toArray, List.map_cons, List.map_nil, List.getD_cons_succ, List.getD_cons_zero]
          repeat (first | go_big_quiet_step (fail))
          refine wpQuiet_nil ?_
          refine WD.done (by kernel_rfl) ?_
          go_wp2_with fail
          go_roundw
          case rel => exact ⟨i + 1, by omega, by go_num, fd⟩
          case measure => simp [intOf]; omega
  case neg =>
    have hy0 : ((y.toNat : Int) == 0) = false := by
      rw [beq_eq_false_iff_ne]
      intro h
      exact hy (UInt8.toNat_inj.1 (by rw [show (0 : UInt8).toNat = 0 from rfl]; omega))
    by_cases hsz : s.size = 0 ∨ 4096 < s.size
    case pos =>
      have hc : ((s.size : Int) == 0) = true ∨ (((s.size : Int) == 0) = false ∧ decide (4096 < (s.size : Int)) = true ∧ decide (4096 < s.size) = true) := by
        by_cases h : s.size = 0
        · exact .inl (by rw [h]; rfl)
        · exact .inr ⟨by rw [beq_eq_false_iff_ne]; omega, by simp; omega, by simp; omega⟩
      rcases hc with h1 | ⟨h1, h2, h3⟩
      all_goals
        go_enter Try.func4, Try.ntmps4
        go_wp2_with fail
        refine alive_any.mono ?_
        rintro e w1 ⟨rfl, f1⟩
        go_wp2_with fail
        go_ret
        exact ⟨rfl, f1⟩
    case neg =>
      have h1 : ((s.size : Int) == 0) = false := by rw [beq_eq_false_iff_ne]; omega
      have h2 : decide (4096 < (s.size : Int)) = false := by simp; omega
      have h3 : decide (4096 < s.size) = false := by simp; omega
      have hs0 : 0 < s.size ∧ s.size ≤ 4096 := by omega
      obtain ⟨k, hand⟩ := andI at_
      obtain ⟨j, hjE⟩ : ∃ j : Nat, (k : Int) % (s.size : Int) = (j : Int) := Int.eq_ofNat_of_zero_le (Int.emod_nonneg _ (by omega))
      have hjE2 : (k : Int).tmod (s.size : Int) = (j : Int) := by rw [Int.tmod_eq_emod_of_nonneg (by omega)]; exact hjE
      have hjn : j < s.size := by have := Int.emod_lt_of_pos (k : Int) (show 0 < (s.size : Int) by omega); omega
      obtain ⟨L, hL⟩ : ∃ L, s.data.toList = L := ⟨_, rfl⟩
      have HL := hid hL
      have HLl := hid (show L.length = s.size by rw [← hL, bytes_len])
      have hs4 : s.size ≤ 4096 := hs0.2
      clear hL hy hsz hs0
      go_enter Try.func4, Try.ntmps4
      go_wp2_with (refine wpList_bytes_own rfl 9 29 5 _ rfl s rfl (by unfold maxLen; omega) Try.underlying9 Try.underlying29 Try.underlying5 ?_; intro w3 c3 f3 hlt3 ho3; simp only [World.size_alloc, World.size_drew, Act.put, List.setIfInBounds_toArray, List.set_cons_succ, List.set_cons_zero]; revert ho3)
      intro ho3
      rw [HL.out] at ho3
      obtain ⟨N3, hN3⟩ : ∃ N3, w.heap.size = N3 := ⟨_, rfl⟩
      rw [hN3] at ho3 ⊢
      have HN3 := hid hN3
      obtain ⟨cs3, hb3, hl3, htk3, hre3⟩ := ho3.blkOf
      have kj : w3.cell? ⟨N3, j, none⟩ = some (bt (g8 L j)) := by
        have h := ho3.cellAt rfl (j := j) (by rw [bv_length, HLl.out]; exact hjn)
        rw [h, bv, List.getElem?_map, g8, List.getD_eq_getElem?_getD, List.getElem?_eq_getElem (by rw [HLl.out]; exact hjn)]
        rfl
      clear hN3
      go_wp2_with (refine wpList_put rfl _ _ _ rfl rfl (bt (g8 L j ^^^ y)) rfl rfl hb3 (by omega) (by kernel_rfl) ?_; intro w4 f4 b4 hs4; simp only [World.size_alloc, World.size_drew, Act.put, List.setIfInBounds_toArray, List.set_cons_succ, List.set_cons_zero]; revert b4)
      intro b4
      have ho4 := hre3 w4 _ b4 (by rw [List.length_set])
      rw [List.take_set, htk3, ← bv_set] at ho4
      obtain ⟨L2, hL2⟩ : ∃ L2, L.set j (g8 L j ^^^ y) = L2 := ⟨_, rfl⟩
      have hL2l : L2.length = s.size := by rw [← hL2, List.length_set, HLl.out]
      rw [hL2] at ho4
      obtain ⟨D, hD⟩ : ∃ D : ByteArray, ⟨L2.toArray⟩ = D := ⟨_, rfl⟩
      have hDs : D.size = s.size := by rw [← hD, size_mk', hL2l]
      have HS := hid fun (w0 : World) (h : Xr.Own w0 1 (.slice (some ⟨N3, 0, none⟩) s.size c3) s.size (bv L2) (some N3)) => (show (convert 29 9 (.slice (some ⟨N3, 0, none⟩) s.size c3)).run Try.prog w0 = .ok (.string D) w0 from by
        rw [← hD]
        exact run_string_of_own _ _ _ 5 h Try.underlying29 Try.underlying5 Try.underlying9)
      have HDs := hid hDs
      have hD4 : D.size ≤ 4096 := by omega
      have g4 := f3.trans f4 (by have := HN3.out; simp; omega)
      have hod : Xr.Own w4.drew 1 (.slice (some ⟨N3, 0, none⟩) s.size c3) s.size (bv L2) (some N3) := ho4.keep ((Fr.refl [] w4).drew) (by simp)
      have gd := g4.drew
      have H1 := hid fun w0 : World => of_any (w := w0) s (by omega)
      have H2 := hid fun w0 : World => of_any (w := w0) D (by omega)
      have H3 := hid fun w0 : World => rof_any (w := w0) s (by omega)
      have H4 := hid fun w0 : World => rof_any (w := w0) D (by omega)
      generalize shaS s = A at H1 H3
      generalize shaS D = B at H2 H4
      obtain ⟨q, hq⟩ : ∃ q, (A.toList == B.toList) = q := ⟨_, rfl⟩
      clear hD hDs hL2 hL2l kj hb3 hl3 htk3 hre3 b4 f3 f4 g4 ho4 ho3 hlt3
      go_wp2_with fail
      refine wp_region_D (fun w' => Xr.Own w' 1 (.slice (some ⟨N3, 0, none⟩) s.size c3) s.size (bv L2) (some N3)) false [] (by kernel_rfl) ?_
      refine WD.pure [0] (by kernel_rfl) hod ?_
      simp only [pick, List.toList_toArray, List.map_cons, List.map_nil, List.getD_cons_succ, List.getD_cons_zero]
      repeat (first | (refine quiet_conv_v (by rfl) _ _ _ rfl _ rfl (.string D) (fun wq h => HS.out wq h) ?_; simp only [World.size_alloc, World.size_drew, Act.put, List.setIfInBounds_toArray, List.set_cons_succ, List.set_cons_zero]) | go_big_quiet_step (fail))
      refine wpQuiet_nil ?_
      refine WD.free [2, 6, 8] (by kernel_rfl) hod ?_
      simp only [pick, List.toList_toArray, List.map_cons, List.map_nil, List.getD_cons_succ, List.getD_cons_zero]
      repeat (first | (refine quiet_conv_v (by rfl) _ _ _ rfl _ rfl (.string D) (fun wq h => HS.out wq h) ?_; simp only [World.size_alloc, World.size_drew, Act.put, List.setIfInBounds_toArray, List.set_cons_succ, List.set_cons_zero]) | go_big_quiet_step (fail))
      refine wpQuiet_nil ?_
      refine WD.held [3, 9] (by kernel_rfl) hod ?_
      simp only [pick, List.toList_toArray, List.map_cons, List.map_nil, List.getD_cons_succ, List.getD_cons_zero]
      repeat (first | (refine quiet_conv_v (by rfl) _ _ _ rfl _ rfl (.string D) (fun wq h => HS.out wq h) ?_; simp only [World.size_alloc, World.size_drew, Act.put, List.setIfInBounds_toArray, List.set_cons_succ, List.set_cons_zero]) | go_big_quiet_step (fail))
      refine wpQuiet_nil ?_
      refine WD.eff 1 (by kernel_rfl) ?_
      simp only [pick, List.toList_toArray, List.map_cons, List.map_nil, List.getD_cons_succ, List.getD_cons_zero]
      go_wp2_with fail
      refine (H1.out _).mono ?_
      rintro e w5 ⟨rfl, f5⟩
      have ho5 := hod.keep f5 (by simp)
      go_wp2_with fail
      try refine wpList_nil ?_
      refine AfterD.on ho5 (by kernel_rfl) ?_
      try simp only [World.size_alloc, World.size_drew, Act.put, List.setIfInBounds_toArray, List.set_cons_succ, List.set_cons_zero]
      refine WD.eff 4 (by kernel_rfl) ?_
      simp only [pick, List.toList_toArray, List.map_cons, List.map_nil, List.getD_cons_succ, List.getD_cons_zero]
      go_wp2_with fail
      refine (H2.out _).mono ?_
      rintro e w6 ⟨rfl, f6⟩
      have ho6 := ho5.keep f6 (by simp)
      go_wp2_with fail
      try refine wpList_nil ?_
      refine AfterD.on ho6 (by kernel_rfl) ?_
      try simp only [World.size_alloc, World.size_drew, Act.put, List.setIfInBounds_toArray, List.set_cons_succ, List.set_cons_zero]
      refine WD.free [5] (by kernel_rfl) ho6 ?_
      simp only [pick, List.toList_toArray, List.map_cons, List.map_nil, List.getD_cons_succ, List.getD_cons_zero]
      repeat (first | (refine quiet_conv_v (by rfl) _ _ _ rfl _ rfl (.string D) (fun wq h => HS.out wq h) ?_; simp only [World.size_alloc, World.size_drew, Act.put, List.setIfInBounds_toArray, List.set_cons_succ, List.set_cons_zero]) | go_big_quiet_step (fail))
      refine wpQuiet_nil ?_
      refine WD.eff 7 (by kernel_rfl) ?_
      simp only [pick, List.toList_toArray, List.map_cons, List.map_nil, List.getD_cons_succ, List.getD_cons_zero]
      go_wp2_with fail
      refine (H3.out _).mono ?_
      rintro e w7 ⟨rfl, f7⟩
      have ho7 := ho6.keep f7 (by simp)
      go_wp2_with fail
      try refine wpList_nil ?_
      refine AfterD.on ho7 (by kernel_rfl) ?_
      try simp only [World.size_alloc, World.size_drew, Act.put, List.setIfInBounds_toArray, List.set_cons_succ, List.set_cons_zero]
      refine WD.eff 10 (by kernel_rfl) ?_
      simp only [pick, List.toList_toArray, List.map_cons, List.map_nil, List.getD_cons_succ, List.getD_cons_zero]
      go_wp2_with fail
      refine (H4.out _).mono ?_
      rintro e w8 ⟨rfl, f8⟩
      have ho8 := ho7.keep f8 (by simp)
      have g8' := (((gd.trans' f5).trans' f6).trans' f7).trans' f8
      clear hod ho5 ho6 ho7 f5 f6 f7 f8 gd
      go_wp2_with fail
      try refine wpList_nil ?_
      refine AfterD.on ho8 (by kernel_rfl) ?_
      try simp only [World.size_alloc, World.size_drew, Act.put, List.setIfInBounds_toArray, List.set_cons_succ, List.set_cons_zero]
      refine WD.pure [11, 12, 13] (by kernel_rfl) ho8 ?_
      simp only [pick, List.toList_toArray, List.map_cons, List.map_nil, List.getD_cons_succ, List.getD_cons_zero]
      repeat (first | (refine quiet_conv_v (by rfl) _ _ _ rfl _ rfl (.string D) (fun wq h => HS.out wq h) ?_; simp only [World.size_alloc, World.size_drew, Act.put, List.setIfInBounds_toArray, List.set_cons_succ, List.set_cons_zero]) | go_big_quiet_step (fail))
      refine wpQuiet_nil ?_
      refine WD.eff 14 (by kernel_rfl) ?_
      simp only [pick, List.toList_toArray, List.map_cons, List.map_nil, List.getD_cons_succ, List.getD_cons_zero]
      go_wp2_with fail
      refine alive_any.mono ?_
      rintro e w9 ⟨rfl, f9⟩
      have ho9 := ho8.keep f9 (by simp)
      go_wp2_with fail
      try refine wpList_nil ?_
      refine AfterD.on ho9 (by kernel_rfl) ?_
      try simp only [World.size_alloc, World.size_drew, Act.put, List.setIfInBounds_toArray, List.set_cons_succ, List.set_cons_zero]
      refine WD.pure [15, 16] (by kernel_rfl) ho9 ?_
      simp only [pick, List.toList_toArray, List.map_cons, List.map_nil, List.getD_cons_succ, List.getD_cons_zero]
      repeat (first | (refine quiet_conv_v (by rfl) _ _ _ rfl _ rfl (.string D) (fun wq h => HS.out wq h) ?_; simp only [World.size_alloc, World.size_drew, Act.put, List.setIfInBounds_toArray, List.set_cons_succ, List.set_cons_zero]) | go_big_quiet_step (fail))
      refine wpQuiet_nil ?_
      refine WD.done (by kernel_rfl) ?_
      go_wp2_with fail
      go_ret
      exact ⟨rfl, g8'.trans' f9⟩
end Go.Proofs.Ytkohnmlnpbkphaa
