/- Layer 2, mac: a text with its length; many. -/
import Derived.Test.YtfcpnicgffbmeaaMacB
namespace Go.Xr
open Go
set_option linter.unusedVariables false
def longL (s : ByteArray) : List UInt8 := be8 s.size ++ s.data.toList
def allL (l : List ByteArray) : List UInt8 := l.flatMap longL
theorem be8_len (n : Nat) : (be8 n).length = 8 := by simp [be8]
theorem longL_len (s : ByteArray) : (longL s).length = 8 + s.size := by rw [longL, List.length_append, be8_len, bytes_len]
theorem allL_snoc (l : List ByteArray) (i : Nat) (h : i < l.length) : allL (l.take (i + 1)) = allL (l.take i) ++ longL l[i] := by
  rw [List.take_succ_eq_append_getElem h]
  simp only [allL, List.flatMap_append, List.flatMap_cons, List.flatMap_nil, List.append_nil]
theorem allL_le (l : List ByteArray) (i : Nat) : (allL (l.take i)).length ≤ (allL l).length := by
  have : allL l = allL (l.take i) ++ allL (l.drop i) := by
    rw [allL, allL, allL, ← List.flatMap_append, List.take_append_drop]
  rw [this, List.length_append]
  omega
theorem allL_room (l : List ByteArray) (i : Nat) (h : i < l.length) : (allL (l.take i)).length + 8 + l[i].size ≤ (allL l).length := by
  have h1 := allL_le l (i + 1)
  rw [allL_snoc l i h, List.length_append, longL_len] at h1
  omega
/-- Eight bytes filled from behind. -/
def bzr (m i : Nat) : List UInt8 := List.replicate (8 - i) 0 ++ (be8 m).drop (8 - i)
theorem bzr_len (m i : Nat) : (bzr m i).length = 8 := by
  simp only [bzr, List.length_append, List.length_replicate, List.length_drop, be8_len]
  omega
theorem bzr_zero (m : Nat) : bzr m 0 = List.replicate 8 0 := by
  unfold bzr
  rw [List.drop_of_length_le (by rw [be8_len]; exact Nat.le_refl _)]
  simp
theorem bzr_full (m : Nat) : bzr m 8 = be8 m := by simp [bzr]
theorem bzr_set (m i : Nat) (h : i < 8) : (bzr m i).set (7 - i) (UInt8.ofNat (m / 2 ^ (8 * i))) = bzr m (i + 1) := by
  have h : i = 0 ∨ i = 1 ∨ i = 2 ∨ i = 3 ∨ i = 4 ∨ i = 5 ∨ i = 6 ∨ i = 7 := by omega
  rcases h with rfl | rfl | rfl | rfl | rfl | rfl | rfl | rfl <;> rfl
end Go.Xr
namespace Go.Proofs.Ytfcpnicgffbmeaa
open Go Go.Xr Go.RowKit
set_option linter.unusedVariables false
set_option linter.unusedSimpArgs false

def longS (s : ByteArray) : ByteArray := ⟨(longL s).toArray⟩
def allS (l : List ByteArray) : ByteArray := ⟨(allL l).toArray⟩
theorem longS_eq (s : ByteArray) : (⟨(be8 s.size).toArray⟩ : ByteArray) ++ s = longS s := by
  apply ByteArray.ext
  apply Array.ext'
  simp [longS, longL]
theorem longS_size (s : ByteArray) : (longS s).size = 8 + s.size := by rw [longS, size_mk', longL_len]
theorem allS_size (l : List ByteArray) : (allS l).size = (allL l).length := by rw [allS, size_mk']
theorem allS_snoc (l : List ByteArray) (i : Nat) (h : i < l.length) : allS (l.take i) ++ longS l[i] = allS (l.take (i + 1)) := by
  apply ByteArray.ext
  apply Array.ext'
  simp only [allS, longS, allL_snoc l i h]
  simp

theorem shr_i64 (t : TypeId) (a c : Nat) (yk : IntKind) (h : c ≤ 64) : binOp .shr t (.int .i64 (a : Int)) (.int yk (c : Int)) = pure (.int .i64 ((a / 2 ^ c : Nat) : Int)) := by
  have hn : ¬ ((c : Int) < 0) := by omega
  simp only [binOp, Op.shift, hn, if_false, IntKind.bits, Int.toNat_natCast, Nat.min_eq_left h]
  rw [Int.fdiv_eq_ediv_of_nonneg _ (by exact Int.pow_nonneg (by decide)), Int.natCast_ediv, Int.natCast_pow]
  rfl
theorem cvi_8 (w : World) (x : Nat) : (convert 3 5 (.int .i64 (x : Int))).run Try.prog w = .ok (bt (UInt8.ofNat x)) w := by
  have e : Value.int .u8 (IntKind.u8.wrap (x : Int)) = bt (UInt8.ofNat x) := by
    rw [int_u8]
    refine congrArg bt (UInt8.toNat_inj.1 ?_)
    have h1 : (UInt8.ofBitVec (BitVec.ofInt 8 (x : Int))).toNat = (BitVec.ofInt 8 (x : Int)).toNat := rfl
    rw [UInt8.toNat_ofNat', h1, BitVec.toNat_ofInt]
    omega
  simp only [convert, Sem.run_bind, run_underlying Try.underlying3, run_underlying Try.underlying5, Result.andThen_ok, Conv.intToInt, e, Sem.run_pure]

theorem infC : ∃ i, Try.prog.info? 60 = some i ∧ i.zero = some (.agg (List.replicate 8 (bt 0)).toArray) ∧ i.size = 8 := ⟨_, rfl, rfl, rfl⟩

set_option maxRecDepth 20000 in
set_option maxHeartbeats 1000000 in
theorem long_any {w : World} (s : ByteArray) (hs : s.size < 1099511627776) : Calls Try.prog 28 #[.string s] w fun e w' => e = .returned (.string (longS s)) ∧ Fr [] w w' := by
  obtain ⟨iA, hiA, hzA, hsA⟩ := infC
  have Hi := hid hiA
  have Hz := hid hzA
  clear hiA hzA hsA
  have hl := longS_eq s
  obtain ⟨L, hL⟩ : ∃ L, longS s = L := ⟨_, rfl⟩
  rw [hL] at hl ⊢
  have Hl := hid hl
  clear hl hL
  go_enter Try.func28, Try.ntmps28
  go_wp2_with (refine wpList_alloc_any rfl _ rfl _ _ 8 Hi.out Hz.out rfl ?_; intro zs w2 hzl hze f2 hlt2 hb2; have Hze := hid hze; clear hzl hze; simp only [World.size_alloc, World.size_drew, Act.put, List.setIfInBounds_toArray, List.set_cons_succ, List.set_cons_zero])
  have hb2' : Blk w2 w.heap.size (bv (bzr s.size 0)) := by
    rw [bzr_zero, bv_replicate]
    rw [Hze.out] at hb2
    exact hb2
  clear hb2 Hze
  go_loopw [8] (fun iv wr => ∃ i : Nat, i ≤ 8 ∧ iv = .int .i64 i ∧ Blk wr w.heap.size (bv (bzr s.size i)) ∧ Fr [] w wr) (fun iv _ => 8 - (intOf iv).toNat)
  case atStart => exact ⟨0, by omega, rfl, hb2', f2⟩
  case round =>
    obtain ⟨i, hi, rfl, hb, f⟩ := hrel
    clear hb2' f2 hlt2
    by_cases hlt : i < 8
    · have hd1 : decide ((i : Int) < 8) = true := by simp; omega
      have hm1 : (i : Int) ≤ 7 := by omega
      have hm2 : (7 - (i : Int)).toNat = 7 - i := by omega
      have hm3 : 8 * (i : Int) ≤ 64 := by omega
      obtain ⟨X, hX⟩ : ∃ X, s.size / 2 ^ (8 * i) = X := ⟨_, rfl⟩
      have hsr : ∀ t, binOp .shr t (.int .i64 (s.size : Int)) (.int .u64 (8 * (i : Int))) = pure (.int .i64 (X : Int)) := by
        intro t
        have := shr_i64 t s.size (8 * i) .u64 (by omega)
        rw [hX] at this
        have e2 : ((8 * i : Nat) : Int) = 8 * (i : Int) := by omega
        rw [e2] at this
        exact this
      have hcv := cvi_8
      have HX := hid hX
      clear hX
      go_wp2_with (refine wpList_put rfl _ _ _ rfl rfl (bt (UInt8.ofNat X)) rfl rfl hb (by rw [bv_length, bzr_len]; omega) (by kernel_rfl) ?_; intro w3 f3 hb3 hs3; (try simp only [World.size_alloc, World.size_drew, Act.put, List.setIfInBounds_toArray, List.set_cons_succ, List.set_cons_zero]))
      rw [← bv_set, ← HX.out, bzr_set _ _ hlt] at hb3
      go_roundw
      case rel => exact ⟨i + 1, by omega, by go_num, hb3, f.trans f3 (by simp)⟩
      case measure => simp [intOf]; omega
    · have ei : i = 8 := by omega
      have hd1 : decide ((i : Int) < 8) = false := by simp; omega
      rw [ei, bzr_full] at hb
      have Hml := hid (be8_len s.size)
      have HSv := hid (show ((bv (be8 s.size)).drop 0).take (be8 s.size).length = bv (be8 s.size) by rw [List.drop_zero, ← bv_length, List.take_length])
      have hsz : (⟨(be8 s.size).toArray⟩ : ByteArray).size = 8 := by rw [size_mk', be8_len]
      clear ei
      go_wp2_with (refine wpList_string_of_bytes rfl _ _ 5 _ rfl 8 8 rfl hb (be8 s.size) Hml.out HSv.out Try.underlying41 Try.underlying5 Try.underlying9 ?_; (try simp only [World.size_alloc, World.size_drew, Act.put, List.setIfInBounds_toArray, List.set_cons_succ, List.set_cons_zero]))
      go_ret
      rw [← Hl.out]
      exact ⟨rfl, f⟩

set_option maxRecDepth 20000 in
set_option maxHeartbeats 1000000 in
theorem rlong_any {w : World} (s : ByteArray) (hs : s.size < 1099511627776) : Calls Try.prog 17 #[.string s] w fun e w' => e = .returned (.string (longS s)) ∧ Fr [] w w' := by
  obtain ⟨i28, hi28, hz28, hs28, hb28⟩ := inf5
  have Hi := hid hi28
  have Hz := hid hz28
  have Hs := hid hs28
  have Hb := hid hb28
  clear hi28 hz28 hs28 hb28
  have hl := longS_eq s
  obtain ⟨L, hL⟩ : ∃ L, longS s = L := ⟨_, rfl⟩
  rw [hL] at hl ⊢
  have Hl := hid hl
  clear hl hL
  go_enter Try.func17, Try.ntmps17
  go_wp2_with (refine wpList_make_blk rfl _ _ _ rfl 8 8 .i64 .i64 rfl rfl 5 _ _ 1 Try.underlying41 Hi.out Hz.out Hs.out Hb.out rfl (by omega) (by omega) (by omega) ?_; intro w1 f1 hlt1 hb1; simp only [World.size_alloc, World.size_drew, Act.put, List.setIfInBounds_toArray, List.set_cons_succ, List.set_cons_zero])
  have hb2' : Blk w1 w.heap.size (bv (bz s.size 0)) := by
    simp only [bz, List.take_zero, List.nil_append, bv_replicate]
    exact hb1
  clear hb1
  go_loopw [4] (fun iv wr => ∃ i : Nat, i ≤ 8 ∧ iv = .int .i64 i ∧ Blk wr w.heap.size (bv (bz s.size i)) ∧ Fr [] w wr) (fun iv _ => 8 - (intOf iv).toNat)
  case atStart => exact ⟨0, by omega, rfl, hb2', f1⟩
  case round =>
    obtain ⟨i, hi, rfl, hb, f⟩ := hrel
    clear hb2' f1 hlt1
    by_cases hlt : i < 8
    · have hd1 : decide ((i : Int) < 8) = true := by simp; omega
      obtain ⟨X, hX⟩ : ∃ X, s.size / 2 ^ (56 - 8 * i) = X := ⟨_, rfl⟩
      have hsr : ∀ t, binOp .shr t (.int .u64 (s.size : Int)) (.int .u64 (56 - 8 * (i : Int))) = pure (.int .u64 (X : Int)) := by
        intro t
        have := shr_nat t s.size (56 - 8 * i) .u64 (by omega)
        rw [hX] at this
        have e2 : ((56 - 8 * i : Nat) : Int) = 56 - 8 * (i : Int) := by omega
        rw [e2] at this
        exact this
      have hcv := cvn_8
      have HX := hid hX
      clear hX
      go_wp2_with (refine wpList_put rfl _ _ _ rfl rfl (bt (UInt8.ofNat X)) rfl rfl hb (by rw [bv_length, bz_len _ _ hi]; exact hlt) (by kernel_rfl) ?_; intro w3 f3 hb3 hs3; (try simp only [World.size_alloc, World.size_drew, Act.put, List.setIfInBounds_toArray, List.set_cons_succ, List.set_cons_zero]))
      rw [← bv_set, ← HX.out, bz_set _ _ hlt] at hb3
      go_roundw
      case rel => exact ⟨i + 1, by omega, by go_num, hb3, f.trans f3 (by simp)⟩
      case measure => simp [intOf]; omega
    · have ei : i = 8 := by omega
      have hd1 : decide ((i : Int) < 8) = false := by simp; omega
      rw [ei, bz_full] at hb
      have Hml := hid (be8_len s.size)
      have HSv := hid (show ((bv (be8 s.size)).drop 0).take (be8 s.size).length = bv (be8 s.size) by rw [List.drop_zero, ← bv_length, List.take_length])
      have hsz : (⟨(be8 s.size).toArray⟩ : ByteArray).size = 8 := by rw [size_mk', be8_len]
      clear ei
      go_wp2_with (refine wpList_string_of_bytes rfl _ _ 5 _ rfl 8 8 rfl hb (be8 s.size) Hml.out HSv.out Try.underlying41 Try.underlying5 Try.underlying9 ?_; (try simp only [World.size_alloc, World.size_drew, Act.put, List.setIfInBounds_toArray, List.set_cons_succ, List.set_cons_zero]))
      go_ret
      rw [← Hl.out]
      exact ⟨rfl, f⟩
end Go.Proofs.Ytfcpnicgffbmeaa
