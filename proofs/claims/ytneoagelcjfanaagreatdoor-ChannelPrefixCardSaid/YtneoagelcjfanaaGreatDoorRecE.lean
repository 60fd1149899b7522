/- Layer 21, record: a padded text read, the program's. -/
import Derived.Test.YtneoagelcjfanaaGreatDoorRecD
namespace Go.Proofs.YtneoagelcjfanaaGreatDoor.rcd
open Go Go.Xr Go.RowKit
set_option linter.unusedVariables false
set_option linter.unusedSimpArgs false
theorem toNat32b (m : Nat) (h : m < 4294967296) : (UInt32.ofNat m).toNat = m := by
  rw [UInt32.toNat_ofNat']
  omega
theorem cv32_i (w : World) (m : Nat) (h : m < 4294967296) : (convert 75 3 (W32 (UInt32.ofNat m))).run Tryz.prog w = .ok (.int .i64 (m : Int)) w := by
  have e : Value.int .i64 (IntKind.i64.wrap ((UInt32.ofNat m).toNat : Int)) = .int .i64 (m : Int) := by
    rw [toNat32b m h]
    congr 1
    exact IntWalk.i64_in _ ⟨by omega, by omega⟩
  simp only [convert, Sem.run_bind, run_underlying Tryz.underlying75, run_underlying Tryz.underlying3, Result.andThen_ok, val_u32, Conv.intToInt, e, Sem.run_pure]
theorem neg8 (op : BinOp) (t : TypeId) (x y : Operand) (a : UInt8) (n : Int) : eqGuard op t x y (bt a) (.int .u8 n) = pure () := by cases op <;> rfl
attribute [local go_sem] neq_u8_c neg8

set_option maxRecDepth 20000 in
set_option maxHeartbeats 1000000 in
theorem unpad_any {w : World} (s : ByteArray) (hm : s.size ≤ 140737488355328) : Calls Tryz.prog 76 #[.string s] w fun e w' => e = .returned (.tuple #[.string (unpT s), .int .i64 (unpE s)]) ∧ Fr [] w w' := by
  by_cases h4 : s.size < 4
  case pos =>
    have HE := hid (show unpE s = 50 by simp [unpE, h4])
    have HT := hid (show unpT s = ⟨#[]⟩ by simp [unpT, unpOk]; omega)
    rw [HE.out, HT.out]
    go_enter Tryz.func76, Tryz.ntmps76
    go_wp2_with fail
    refine (rnew_any s).mono ?_
    rintro e w1 ⟨rfl, b1, hlt1, f1⟩
    go_wp2_with fail
    refine (ru32_short s b1 h4).mono ?_
    rintro e w2 ⟨rfl, b2, f2⟩
    have k2 : w2.cell? ⟨w.heap.size, 2, none⟩ = some (.int .i64 50) := b2.cell 2
    go_wp2_with fail
    go_ret2
    exact ⟨rfl, f1.trans f2 (by simp)⟩
  case neg =>
    have hE0 : unpE s = if unpOk s then 0 else 51 := by simp [unpE, h4]
    obtain ⟨n, hn⟩ : ∃ n, tellN s = n := ⟨_, rfl⟩
    have hnl : n < 4294967296 := by rw [← hn]; exact tellN_lt s
    have hcv : ∀ w0 : World, (convert 75 3 (W32 (UInt32.ofNat n))).run Tryz.prog w0 = .ok (.int .i64 (n : Int)) w0 := fun w0 => cv32_i w0 n hnl
    have Hu := hid fun (w0 : World) (p : Nat) (h : Blk w0 p (rdrL s 0 0)) => ru32_any (w := w0) s h (by omega) hm
    rw [hn] at Hu
    by_cases hbig : n ≤ s.size - 4
    case pos =>
      have hok : unpOk s = zeroB s (4 + n) := by simp [unpOk, hn, hbig]; omega
      have hTT : unpT s = if zeroB s (4 + n) then s.extract 4 (4 + n) else ⟨#[]⟩ := by unfold unpT; rw [hok, hn]
      have HE := hid (show unpE s = if zeroB s (4 + n) then 0 else 51 by rw [hE0, hok])
      have HT := hid hTT
      have hat : 4 + n ≤ s.size := by omega
      clear hn hE0 hok hTT
      go_enter Tryz.func76, Tryz.ntmps76
      go_wp2_with fail
      refine (rnew_any s).mono ?_
      rintro e w1 ⟨rfl, b1, hlt1, f1⟩
      go_wp2_with fail
      refine (Hu.out _ _ b1).mono ?_
      rintro e w2 ⟨rfl, b2, f2⟩
      have k2 : w2.cell? ⟨w.heap.size, 2, none⟩ = some (.int .i64 0) := b2.cell 2
      go_wp2_with fail
      refine (bytes_any s n b2 hat hm).mono ?_
      rintro e w3 ⟨rfl, b3, f3⟩
      obtain ⟨T, hT⟩ : ∃ T, s.extract 4 (4 + n) = T := ⟨_, rfl⟩
      rw [hT] at HT ⊢
      have hgw : Fr [] w w3 := (f1.trans f2 (by simp)).trans f3 (by simp)
      obtain ⟨p, hp⟩ : ∃ p, w.heap.size = p := ⟨_, rfl⟩
      rw [hp] at b3 ⊢
      clear b1 b2 f1 f2 f3 hT k2 Hu
      go_wp2_with fail
      refine (rest_any s b3 hat (by omega)).mono ?_
      rintro e w4 ⟨rfl, f4⟩
      have b4 := f4.blk b3 (by simp)
      have hgw := hgw.trans' f4
      clear b3 f4
      have hRs : (s.extract (4 + n) s.size).size = s.size - (4 + n) := by simp
      have hRi : ((s.extract (4 + n) s.size).size : Int) = ((s.size - (4 + n) : Nat) : Int) := by rw [hRs]
      obtain ⟨R, hR⟩ : ∃ R, s.extract (4 + n) s.size = R := ⟨_, rfl⟩
      rw [hR] at hRi hRs ⊢
      have HR := hid hR
      have HRs := hid hRs
      have HRl := hid (show ∀ j, j < R.size → g8 R.data.toList j = g8 s.data.toList ((4 + n) + j) from fun j hj => by
        rw [← hR, ext_list, List.take_of_length_le (by rw [ba_len]; exact Nat.le_refl _)]
        unfold g8
        rw [List.getD_eq_getElem?_getD, List.getD_eq_getElem?_getD, List.getElem?_drop])
      clear hR hRs hRi
      go_wp2_with fail
      go_loopw [24] (fun iv wr => ∃ i : Nat, i ≤ R.size ∧ iv = .int .i64 i ∧ Hid (∀ j, j < i → g8 s.data.toList ((4 + n) + j) = 0) ∧ Blk wr p (rdrL s (4 + n) 0) ∧ Fr [p] w4 wr) (fun iv _ => R.size - (intOf iv).toNat)
      case atStart => exact ⟨0, by omega, rfl, hid (fun j hj => absurd hj (Nat.not_lt_zero _)), b4, Fr.refl _ _⟩
      case round =>
        obtain ⟨i, hi, rfl, hz, bq, fq⟩ := hrel
        have hib : (i : Int) ≤ 140737488355328 := by have := HRs.out; omega
        by_cases hli : i < R.size
        · have hd : decide (i < R.size) = true := by simp; omega
          have Hrest := hid (rest_any s bq hat (by omega))
          rw [HR.out] at Hrest
          obtain ⟨X, hX⟩ : ∃ X, g8 R.data.toList i = X := ⟨_, rfl⟩
          have hix : ∀ w0 : World, (Instr.index 9 (.string R) (.int .i64 i)).run Tryz.prog w0 = .ok (bt X) w0 := fun w0 => by
            rw [← hX]
            exact index_str (P := Tryz.prog) w0 9 R .i64 i i Tryz.underlying9 rfl hli 0
          by_cases hx0 : X = 0
          · have hn0 : ((X.toNat : Int) != 0) = false := by rw [hx0]; rfl
            have Hz2 := hid (show ∀ j, j < i + 1 → g8 s.data.toList ((4 + n) + j) = 0 from fun j hj => by
              by_cases hji : j < i
              · exact hz.out j hji
              · obtain rfl : j = i := by omega
                rw [← HRl.out j hli, hX, hx0])
            clear hX hx0 hz
            go_wp2_with fail
            refine Hrest.out.mono ?_
            rintro e w7 ⟨rfl, f7⟩
            go_wp2_with fail
            go_roundw
            case rel => exact ⟨i + 1, by omega, by go_num, Hz2, f7.blk bq (by simp), fq.trans' (f7.mono (by simp))⟩
            case measure => simp [intOf]; omega
          · have hn0 : ((X.toNat : Int) != 0) = true := by
              have : X.toNat ≠ 0 := fun h => hx0 (UInt8.toNat_inj.1 h)
              simp
              omega
            have Hnz := hid (show zeroB s (4 + n) = false from zeroB_false s (4 + n) i (by have := HRs.out; omega) (by rw [← HRl.out i hli, hX]; exact hx0))
            clear hX hx0 hz
            go_wp2_with fail
            refine Hrest.out.mono ?_
            rintro e w7 ⟨rfl, f7⟩
            go_wp2_with fail
            go_ret2
            refine ⟨?_, (hgw.trans fq (by simp; omega)).trans' f7⟩
            first | (rw [HE.out, HT.out, Hall.out]; rfl) | (rw [HE.out, HT.out, Hnz.out]; rfl)
        · have hd : decide (i < R.size) = false := by simp; omega
          have Hall := hid (show zeroB s (4 + n) = true from zeroB_true s (4 + n) fun j hj => hz.out j (by have := HRs.out; omega))
          have k2 : wr.cell? ⟨p, 2, none⟩ = some (.int .i64 0) := bq.cell 2
          clear hz hi hli
          go_wp2_with fail
          go_ret2
          refine ⟨?_, hgw.trans fq (by simp; omega)⟩
          first | (rw [HE.out, HT.out, Hall.out]; rfl) | (rw [HE.out, HT.out, Hnz.out]; rfl)
    case neg =>
      have hok : unpOk s = false := by simp [unpOk, hn]; omega
      have HE := hid (show unpE s = 51 by rw [hE0, hok]; rfl)
      have HT := hid (show unpT s = ⟨#[]⟩ by unfold unpT; rw [hok]; rfl)
      have hat : 4 ≤ s.size := by omega
      clear hn hE0 hok
      go_enter Tryz.func76, Tryz.ntmps76
      go_wp2_with fail
      refine (rnew_any s).mono ?_
      rintro e w1 ⟨rfl, b1, hlt1, f1⟩
      go_wp2_with fail
      refine (Hu.out _ _ b1).mono ?_
      rintro e w2 ⟨rfl, b2, f2⟩
      have k2 : w2.cell? ⟨w.heap.size, 2, none⟩ = some (.int .i64 0) := b2.cell 2
      go_wp2_with fail
      refine (bytes_short s n b2 (by omega) hat hm (by omega)).mono ?_
      rintro e w3 ⟨rfl, b3, f3⟩
      have hgw : Fr [] w w3 := (f1.trans f2 (by simp)).trans f3 (by simp)
      obtain ⟨p, hp⟩ : ∃ p, w.heap.size = p := ⟨_, rfl⟩
      rw [hp] at b3 ⊢
      clear b1 b2 f1 f2 f3 k2 Hu
      go_wp2_with fail
      refine (rest_any s b3 hat (by omega)).mono ?_
      rintro e w4 ⟨rfl, f4⟩
      have b4 := f4.blk b3 (by simp)
      have hgw := hgw.trans' f4
      clear b3 f4
      have hRs : (s.extract (4) s.size).size = s.size - (4) := by simp
      have hRi : ((s.extract (4) s.size).size : Int) = ((s.size - (4) : Nat) : Int) := by rw [hRs]
      obtain ⟨R, hR⟩ : ∃ R, s.extract (4) s.size = R := ⟨_, rfl⟩
      rw [hR] at hRi hRs ⊢
      have HR := hid hR
      have HRs := hid hRs
      have HRl := hid (show ∀ j, j < R.size → g8 R.data.toList j = g8 s.data.toList ((4) + j) from fun j hj => by
        rw [← hR, ext_list, List.take_of_length_le (by rw [ba_len]; exact Nat.le_refl _)]
        unfold g8
        rw [List.getD_eq_getElem?_getD, List.getD_eq_getElem?_getD, List.getElem?_drop])
      clear hR hRs hRi
      go_wp2_with fail
      go_loopw [24] (fun iv wr => ∃ i : Nat, i ≤ R.size ∧ iv = .int .i64 i ∧ Hid (∀ j, j < i → g8 s.data.toList ((4) + j) = 0) ∧ Blk wr p (rdrL s (4) 50) ∧ Fr [p] w4 wr) (fun iv _ => R.size - (intOf iv).toNat)
      case atStart => exact ⟨0, by omega, rfl, hid (fun j hj => absurd hj (Nat.not_lt_zero _)), b4, Fr.refl _ _⟩
      case round =>
        obtain ⟨i, hi, rfl, hz, bq, fq⟩ := hrel
        have hib : (i : Int) ≤ 140737488355328 := by have := HRs.out; omega
        by_cases hli : i < R.size
        · have hd : decide (i < R.size) = true := by simp; omega
          have Hrest := hid (rest_any s bq hat (by omega))
          rw [HR.out] at Hrest
          obtain ⟨X, hX⟩ : ∃ X, g8 R.data.toList i = X := ⟨_, rfl⟩
          have hix : ∀ w0 : World, (Instr.index 9 (.string R) (.int .i64 i)).run Tryz.prog w0 = .ok (bt X) w0 := fun w0 => by
            rw [← hX]
            exact index_str (P := Tryz.prog) w0 9 R .i64 i i Tryz.underlying9 rfl hli 0
          by_cases hx0 : X = 0
          · have hn0 : ((X.toNat : Int) != 0) = false := by rw [hx0]; rfl
            have Hz2 := hid (show ∀ j, j < i + 1 → g8 s.data.toList ((4) + j) = 0 from fun j hj => by
              by_cases hji : j < i
              · exact hz.out j hji
              · obtain rfl : j = i := by omega
                rw [← HRl.out j hli, hX, hx0])
            clear hX hx0 hz
            go_wp2_with fail
            refine Hrest.out.mono ?_
            rintro e w7 ⟨rfl, f7⟩
            go_wp2_with fail
            go_roundw
            case rel => exact ⟨i + 1, by omega, by go_num, Hz2, f7.blk bq (by simp), fq.trans' (f7.mono (by simp))⟩
            case measure => simp [intOf]; omega
          · have hn0 : ((X.toNat : Int) != 0) = true := by
              have : X.toNat ≠ 0 := fun h => hx0 (UInt8.toNat_inj.1 h)
              simp
              omega
            have Hnz := hid (show zeroB s (4) = false from zeroB_false s (4) i (by have := HRs.out; omega) (by rw [← HRl.out i hli, hX]; exact hx0))
            clear hX hx0 hz
            go_wp2_with fail
            refine Hrest.out.mono ?_
            rintro e w7 ⟨rfl, f7⟩
            go_wp2_with fail
            go_ret2
            refine ⟨?_, (hgw.trans fq (by simp; omega)).trans' f7⟩
            (rw [HE.out, HT.out]; rfl)
        · have hd : decide (i < R.size) = false := by simp; omega
          have Hall := hid (show zeroB s (4) = true from zeroB_true s (4) fun j hj => hz.out j (by have := HRs.out; omega))
          have k2 : wr.cell? ⟨p, 2, none⟩ = some (.int .i64 50) := bq.cell 2
          clear hz hi hli
          go_wp2_with fail
          go_ret2
          refine ⟨?_, hgw.trans fq (by simp; omega)⟩
          (rw [HE.out, HT.out]; rfl)
end Go.Proofs.YtneoagelcjfanaaGreatDoor.rcd
