/- Layer 21, record: a padded text read, the document's; padded texts come back. -/
import Derived.Test.YtneoagelcjfanaaGreatDoorRecF
namespace Go.Proofs.YtneoagelcjfanaaGreatDoor.rcd
open Go Go.Xr Go.RowKit
set_option linter.unusedVariables false
set_option linter.unusedSimpArgs false
attribute [local go_sem] neq_u8_c neg8 gtr_u64

theorem toNat64b (m : Nat) (h : m ≤ 140737488355328) : (UInt64.ofNat m).toNat = m := by
  rw [UInt64.toNat_ofNat']
  omega
set_option maxRecDepth 20000 in
set_option maxHeartbeats 1000000 in
theorem runpad_any {w : World} (s : ByteArray) (hm : s.size ≤ 140737488355328) : Calls Tryz.prog 79 #[.string s] w fun e w' => e = .returned (.tuple #[.string (unpT s), .int .i64 (unpE s)]) ∧ Fr [] w w' := by
  by_cases h4 : s.size < 4
  case pos =>
    have HE := hid (show unpE s = 50 by simp [unpE, h4])
    have HT := hid (show unpT s = ⟨#[]⟩ by simp [unpT, unpOk]; omega)
    have hd : decide ((s.size : Int) < 4) = true := by simp; omega
    rw [HE.out, HT.out]
    go_enter Tryz.func79, Tryz.ntmps79
    go_wp2_with fail
    go_ret2
    exact ⟨rfl, Fr.refl _ _⟩
  case neg =>
    have hE0 : unpE s = if unpOk s then 0 else 51 := by simp [unpE, h4]
    have hd4 : decide ((s.size : Int) < 4) = false := by simp; omega
    obtain ⟨n, hn⟩ : ∃ n, tellN s = n := ⟨_, rfl⟩
    have hnl : n < 4294967296 := by rw [← hn]; exact tellN_lt s
    have Hu := hid fun (w0 : World) (p : Nat) (h : Blk w0 p (rdrR s 0 0)) => rnum_any (w := w0) s h (by omega) hm
    rw [hn] at Hu
    have hcvs : ∀ w0 : World, (convert 3 22 (.int .i64 ((s.size : Int) - 4))).run Tryz.prog w0 = .ok (W64 (UInt64.ofNat (s.size - 4))) w0 := fun w0 => by
      have e : Value.int .u64 (IntKind.u64.wrap ((s.size : Int) - 4)) = W64 (UInt64.ofNat (s.size - 4)) := by
        rw [val_u64, toNat64b _ (by omega)]
        congr 1
        simp [IntKind.wrap, IntKind.bits, IntKind.signed]
        omega
      simp only [convert, Sem.run_bind, run_underlying Tryz.underlying3, run_underlying Tryz.underlying22, Result.andThen_ok, Conv.intToInt, e, Sem.run_pure]
    by_cases hbig : n ≤ s.size - 4
    case neg =>
      have hok : unpOk s = false := by simp [unpOk, hn]; omega
      have HE := hid (show unpE s = 51 by rw [hE0, hok]; rfl)
      have HT := hid (show unpT s = ⟨#[]⟩ by unfold unpT; rw [hok]; rfl)
      have hlt : decide (UInt64.ofNat (s.size - 4) < UInt64.ofNat n) = true := by
        rw [decide_eq_true_eq, UInt64.lt_iff_toNat_lt, toNat64b _ (by omega), toNat64b _ (by omega)]
        omega
      rw [HE.out, HT.out]
      clear hn hE0 hok
      go_enter Tryz.func79, Tryz.ntmps79
      go_wp2_with fail
      have b1 := Blk.alloc w (rdrR s 0 0) 154
      refine (Hu.out _ _ b1).mono ?_
      rintro e w2 ⟨rfl, f2⟩
      go_wp2_with fail
      go_ret2
      exact ⟨rfl, ((Fr.refl [] w).alloc _).trans f2 (by simp)⟩
    case pos =>
      have hok : unpOk s = zeroB s (4 + n) := by simp [unpOk, hn, hbig]; omega
      have hTT : unpT s = if zeroB s (4 + n) then s.extract 4 (4 + n) else ⟨#[]⟩ := by unfold unpT; rw [hok, hn]
      have HE := hid (show unpE s = if zeroB s (4 + n) then 0 else 51 by rw [hE0, hok])
      have HT := hid hTT
      have hat : 4 + n ≤ s.size := by omega
      have hlt : decide (UInt64.ofNat (s.size - 4) < UInt64.ofNat n) = false := by
        rw [decide_eq_false_iff_not, UInt64.lt_iff_toNat_lt, toNat64b _ (by omega), toNat64b _ (by omega)]
        omega
      have hcvn : ∀ w0 : World, (convert 22 3 (W64 (UInt64.ofNat n))).run Tryz.prog w0 = .ok (.int .i64 (n : Int)) w0 := fun w0 => by
        have e : Value.int .i64 (IntKind.i64.wrap ((UInt64.ofNat n).toNat : Int)) = .int .i64 (n : Int) := by
          rw [toNat64b n (by omega)]
          congr 1
          exact IntWalk.i64_in _ ⟨by omega, by omega⟩
        simp only [convert, Sem.run_bind, run_underlying Tryz.underlying22, run_underlying Tryz.underlying3, Result.andThen_ok, val_u64, Conv.intToInt, e, Sem.run_pure]
      have hadd : ∀ t, binOp .add t (.int .u64 4) (W64 (UInt64.ofNat n)) = pure (.int .u64 ((4 + n : Nat) : Int)) := fun t => by
        rw [add_u64c_, val_u64, UInt64.toNat_add, toNat64b n (by omega), show (c64 4).toNat = 4 from rfl, Nat.mod_eq_of_lt (by omega)]
      have hsl : ∀ w0 : World, (Instr.sliceAt 9 (.string s) (some (.int .i64 4)) (some (.int .u64 ((4 + n : Nat) : Int))) none).run Tryz.prog w0 = .ok (.string (s.extract 4 (4 + n))) w0 := fun w0 => run_slice_s w0 _ Tryz.underlying9 s .i64 .u64 4 _ 4 (4 + n) rfl rfl (by omega) hat
      clear hn hE0 hok hTT
      go_enter Tryz.func79, Tryz.ntmps79
      go_wp2_with fail
      have b1 := Blk.alloc w (rdrR s 0 0) 154
      refine (Hu.out _ _ b1).mono ?_
      rintro e w2 ⟨rfl, f2⟩
      have g2 : Fr [] w w2 := ((Fr.refl [] w).alloc _).trans f2 (by simp)
      clear b1 f2 Hu
      go_wp2_with fail
      go_loopw [6] (fun iv wr => ∃ i : Nat, 4 + n + i ≤ s.size ∧ iv = .int .i64 ((4 + n + i : Nat) : Int) ∧ Hid (∀ j, j < i → g8 s.data.toList ((4 + n) + j) = 0) ∧ wr = w2) (fun iv _ => s.size - (intOf iv).toNat)
      case atStart => exact ⟨0, hat, by simp, hid (fun j hj => absurd hj (Nat.not_lt_zero _)), rfl⟩
      case round =>
        obtain ⟨i, hi, rfl, hz, rfl⟩ := hrel
        obtain ⟨q, hq⟩ : ∃ q, 4 + n + i = q := ⟨_, rfl⟩
        rw [hq] at hi ⊢
        by_cases hli : q < s.size
        · have hd : decide (q < s.size) = true := by simp; omega
          obtain ⟨X, hX⟩ : ∃ X, g8 s.data.toList q = X := ⟨_, rfl⟩
          have hix : ∀ w0 : World, (Instr.index 9 (.string s) (.int .i64 (q : Int))).run Tryz.prog w0 = .ok (bt X) w0 := fun w0 => by
            rw [← hX]
            exact index_str (P := Tryz.prog) w0 9 s .i64 q q Tryz.underlying9 rfl hli 0
          by_cases hx0 : X = 0
          · have hn0 : ((X.toNat : Int) != 0) = false := by rw [hx0]; rfl
            have Hz2 := hid (show ∀ j, j < i + 1 → g8 s.data.toList ((4 + n) + j) = 0 from fun j hj => by
              by_cases hji : j < i
              · exact hz.out j hji
              · obtain rfl : j = i := by omega
                rw [hq, hX, hx0])
            have hqb : (q : Int) ≤ 140737488355328 := by omega
            have Hq := hid hq
            clear hX hx0 hz hq
            go_wp2_with fail
            go_roundw
            case rel => exact ⟨i + 1, by have := Hq.out; omega, by have := Hq.out; rw [show 4 + n + (i + 1) = q + 1 by omega]; go_num, Hz2, by first | rfl | trivial⟩
            case measure => simp [intOf]; omega
          · have hn0 : ((X.toNat : Int) != 0) = true := by
              have : X.toNat ≠ 0 := fun h => hx0 (UInt8.toNat_inj.1 h)
              simp
              omega
            have Hnz := hid (show zeroB s (4 + n) = false from zeroB_false s (4 + n) i (by omega) (by rw [hq, hX]; exact hx0))
            clear hX hx0 hz hq
            go_wp2_with fail
            go_ret2
            rw [HE.out, HT.out, Hnz.out]
            exact ⟨rfl, g2⟩
        · have hd : decide (q < s.size) = false := by simp; omega
          have Hall := hid (show zeroB s (4 + n) = true from zeroB_true s (4 + n) fun j hj => hz.out j (by omega))
          clear hz hi hli hq
          go_wp2_with fail
          go_ret2
          rw [HE.out, HT.out, Hall.out]
          exact ⟨rfl, g2⟩

/-- A padded text comes back. -/
theorem padS_size (s : ByteArray) (n : Nat) (h : s.size + 4 ≤ n) : (padS s n).size = n := by
  unfold padS
  rw [size_mk', padB_len _ _ (by rw [ba_len]; exact h)]
theorem padS_list (s : ByteArray) (n : Nat) : (padS s n).data.toList = leN s.size 4 ++ (s.data.toList ++ List.replicate (n - 4 - s.size) 0) := by
  show padB s.data.toList n = _
  unfold padB
  rw [ba_len, List.append_assoc]
theorem tell_pad (s : ByteArray) (n : Nat) (h : s.size < 4294967296) : tellN (padS s n) = s.size := by
  unfold tellN
  rw [padS_list, List.take_append_of_le_length (by rw [leN_len]; exact Nat.le_refl _), List.take_of_length_le (by rw [leN_len]; exact Nat.le_refl _), leV_leN _ h]
theorem zero_pad (s : ByteArray) (n : Nat) : zeroB (padS s n) (4 + s.size) = true := by
  unfold zeroB
  rw [padS_list, show 4 + s.size = (leN s.size 4).length + s.data.toList.length by rw [leN_len, ba_len], ← List.drop_drop, List.drop_left, List.drop_left]
  simp
theorem unpOk_pad (s : ByteArray) (n : Nat) (h : s.size + 4 ≤ n) (hn : n ≤ 16384) : unpOk (padS s n) = true := by
  unfold unpOk
  rw [tell_pad s n (by omega), zero_pad, padS_size s n h]
  simp
  omega
theorem unpT_pad (s : ByteArray) (n : Nat) (h : s.size + 4 ≤ n) (hn : n ≤ 16384) : unpT (padS s n) = s := by
  unfold unpT
  rw [unpOk_pad s n h hn, if_pos rfl, tell_pad s n (by omega)]
  apply ba_ext
  rw [ext_list, padS_list, show 4 + s.size = (leN s.size 4).length + s.data.toList.length by rw [leN_len, ba_len], List.take_length_add_append, List.take_left, List.drop_left' (leN_len _ _)]
theorem unpE_pad (s : ByteArray) (n : Nat) (h : s.size + 4 ≤ n) (hn : n ≤ 16384) : unpE (padS s n) = 0 := by
  unfold unpE
  rw [unpOk_pad s n h hn, padS_size s n h, if_neg (by omega)]
  rfl
end Go.Proofs.YtneoagelcjfanaaGreatDoor.rcd
