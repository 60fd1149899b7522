/- Several texts put together: RecA, RecB, RecC. What each shows stands ahead of it. -/
import Derived.Test.YtgafefecookgaaaGCore
import Derived.Test.YtgafefecookgaaaProg
import Derived.LoopN
import Derived.WalkLawsBesides
import Derived.WalkSpells
import Derived.OwnWalk
/- Layer 21, record: a text's class; a number's bytes, the lowest first; a text padded. -/
namespace Go.Xr
open Go
set_option linter.unusedVariables false
/-- The least of 64, 128 .. that is n + 4 at least. -/
def clsR (n : Nat) : Nat → Nat → Nat
  | 0, c => c
  | f + 1, c => if c < n + 4 then clsR n f (2 * c) else c
def clsN (n : Nat) : Nat := clsR n 8 64
theorem clsR_stop (n f c : Nat) (h : n + 4 ≤ c) : clsR n f c = c := by
  cases f with
  | zero => rfl
  | succ f => rw [clsR, if_neg (by omega)]
theorem clsR_le (n : Nat) : ∀ f c, c ≤ clsR n f c ∧ clsR n f c ≤ c * 2 ^ f
  | 0, c => by simp [clsR]
  | f + 1, c => by
    rw [clsR]
    have h := clsR_le n f (2 * c)
    split
    · have e : c * 2 ^ (f + 1) = 2 * c * 2 ^ f := by rw [Nat.pow_succ]; ac_rfl
      rw [e]
      exact ⟨by omega, h.2⟩
    · exact ⟨Nat.le_refl _, Nat.le_mul_of_pos_right _ (Nat.two_pow_pos _)⟩
theorem clsR_ge (n : Nat) : ∀ f c, n + 4 ≤ c * 2 ^ f → n + 4 ≤ clsR n f c
  | 0, c, h => by simpa [clsR] using h
  | f + 1, c, h => by
    rw [clsR]
    split
    · exact clsR_ge n f (2 * c) (by have e : c * 2 ^ (f + 1) = 2 * c * 2 ^ f := by rw [Nat.pow_succ]; ac_rfl
                                    omega)
    · omega
theorem clsN_ge (n : Nat) (h : n ≤ 8192) : n + 4 ≤ clsN n := clsR_ge n 8 64 (by omega)
theorem clsN_le (n : Nat) : 64 ≤ clsN n ∧ clsN n ≤ 16384 := clsR_le n 8 64
/-- So many bytes of a number, the lowest first. -/
def leN (m n : Nat) : List UInt8 := (List.range n).map fun i => UInt8.ofNat (m / 2 ^ (8 * i))
theorem leN_len (m n : Nat) : (leN m n).length = n := by simp [leN]
theorem leN_get (m n i : Nat) (h : i < n) : (leN m n)[i]? = some (UInt8.ofNat (m / 2 ^ (8 * i))) := by simp [leN, h]
theorem shr64_b (a : UInt64) (n : Nat) : (shr64 a n).toUInt8 = UInt8.ofNat (a.toNat / 2 ^ n) := by
  apply UInt8.toNat_inj.1
  have h1 : (shr64 a n).toNat = a.toNat / 2 ^ n := by
    show (a.toBitVec >>> n).toNat = a.toNat / 2 ^ n
    rw [BitVec.toNat_ushiftRight, Nat.shiftRight_eq_div_pow]
    rfl
  rw [UInt64.toNat_toUInt8, h1, UInt8.toNat_ofNat']
/-- The first i bytes of l, then 0. -/
def upL (l : List UInt8) (i : Nat) : List UInt8 := l.take i ++ List.replicate (l.length - i) 0
theorem upL_len (l : List UInt8) (i : Nat) (h : i ≤ l.length) : (upL l i).length = l.length := by simp [upL]; omega
theorem upL_zero (l : List UInt8) : upL l 0 = List.replicate l.length 0 := by simp [upL]
theorem upL_all (l : List UInt8) : upL l l.length = l := by simp [upL]
theorem upL_set (l : List UInt8) (i : Nat) (c : UInt8) (h : l[i]? = some c) : (upL l i).set i c = upL l (i + 1) := by
  obtain ⟨hi, hc⟩ := List.getElem?_eq_some_iff.1 h
  unfold upL
  have e : l.length - i = (l.length - (i + 1)) + 1 := by omega
  rw [List.set_append_right _ _ (by rw [List.length_take]; omega), List.length_take, Nat.min_eq_left (by omega), Nat.sub_self, e, List.replicate_succ, List.set_cons_zero, List.take_succ_eq_append_getElem hi, List.append_assoc, hc]
  rfl
/-- A text with its length, and 0 up to n bytes. -/
def padB (s : List UInt8) (n : Nat) : List UInt8 := leN s.length 4 ++ s ++ List.replicate (n - 4 - s.length) 0
theorem padB_len (s : List UInt8) (n : Nat) (h : s.length + 4 ≤ n) : (padB s n).length = n := by
  simp [padB, leN_len]
  omega
end Go.Xr
namespace Go.Proofs.Ytgafefecookgaaa.rcd
open Go Go.Xr Go.RowKit
set_option linter.unusedVariables false
set_option linter.unusedSimpArgs false
set_option maxRecDepth 20000 in
theorem infB8 : ∃ i, Try.prog.info? 5 = some i ∧ i.zero = some (bt 0) ∧ i.size = 1 ∧ i.bytes = 1 := ⟨_, rfl, rfl, rfl, rfl⟩

/-- A text's class: 0 where there is none. -/
def clsI (n : Int) : Int := if 0 ≤ n ∧ n ≤ 8192 then (clsN n.toNat : Int) else 0
theorem clsI_nat (n : Nat) (h : n ≤ 8192) : clsI (n : Int) = (clsN n : Int) := by
  unfold clsI
  rw [if_pos ⟨by omega, by omega⟩, Int.toNat_natCast]

theorem cv32_64 (w : World) (a : UInt32) : (convert 115 95 (W32 a)).run Try.prog w = .ok (W64 a.toUInt64) w := conv_u32_u64 w _ _ a Try.underlying115 Try.underlying95 rfl
theorem cv64_b (w : World) (a : UInt64) : (convert 95 5 (W64 a)).run Try.prog w = .ok (bt a.toUInt8) w := conv_u64_u8 w _ _ a Try.underlying95 Try.underlying5 rfl
attribute [local go_sem] shr_u64 cv64_b cv32_64

set_option maxRecDepth 20000 in
theorem put32_any {w : World} (x : UInt32) (n : Nat) (hn : n ≤ 8) : Calls Try.prog 74 #[W32 x, .int .i64 (n : Int)] w fun e w' => e = .returned (.string ⟨(leN x.toNat n).toArray⟩) ∧ Fr [] w w' := by
  obtain ⟨i5, hi5, hz5, hs5, hb5⟩ := infB8
  have Hi := hid hi5
  have Hz := hid hz5
  have Hs := hid hs5
  have Hb := hid hb5
  clear hi5 hz5 hs5 hb5
  obtain ⟨L, hL⟩ : ∃ L, leN x.toNat n = L := ⟨_, rfl⟩
  have HLl := hid (show L.length = n by rw [← hL, leN_len])
  have HLg := hid (show ∀ i, i < n → L[i]? = some (UInt8.ofNat (x.toNat / 2 ^ (8 * i))) from fun i hi => by rw [← hL]; exact leN_get _ _ _ hi)
  rw [hL]
  clear hL
  go_enter Try.func74, Try.ntmps74
  go_wp2_with (refine wpList_make_blk rfl _ _ _ rfl n n .i64 .i64 rfl rfl 5 _ _ 1 Try.underlying49 Hi.out Hz.out Hs.out Hb.out rfl (Nat.le_refl _) (by omega) (by omega) ?_; intro w1 f1 hlt1 hb1; simp only [World.size_alloc, World.size_drew, Act.put, List.setIfInBounds_toArray, List.set_cons_succ, List.set_cons_zero])
  obtain ⟨N, hN⟩ : ∃ N, w.heap.size = N := ⟨_, rfl⟩
  rw [hN] at hb1 hlt1 ⊢
  have HN := hid hN
  have q1 : Blk w1 N (bv (upL L 0)) := by rw [upL_zero, HLl.out, bv_replicate]; exact hb1
  clear hb1 hN
  go_loopw [11] (fun iv wr => ∃ i : Nat, i ≤ n ∧ iv = .int .i64 i ∧ Blk wr N (bv (upL L i)) ∧ Fr [] w wr) (fun iv _ => n - (intOf iv).toNat)
  case atStart => exact ⟨0, by omega, rfl, q1, f1⟩
  case round =>
    obtain ⟨i, hi, rfl, b1, f⟩ := hrel
    clear q1 f1
    by_cases hli : i < n
    · have hd : decide (i < n) = true := by simp; omega
      have hm : 8 * (i : Int) ≤ 56 := by omega
      have hm0 : (0 : Int) ≤ 8 * (i : Int) := by omega
      have hsr : ∀ (t : TypeId) (a : UInt64), binOp .shr t (W64 a) (.int .u64 (8 * (i : Int))) = pure (W64 (shr64 a (8 * i))) := fun t a => by
        have := shr_u64 t a .u64 (8 * (i : Int)) hm0
        rw [show (8 * (i : Int)).toNat = 8 * i by omega] at this
        exact this
      obtain ⟨X, hX⟩ : ∃ X, UInt8.ofNat (x.toNat / 2 ^ (8 * i)) = X := ⟨_, rfl⟩
      have Hset := hid (show (upL L i).set i X = upL L (i + 1) from upL_set _ _ _ (by rw [HLg.out i hli, hX]))
      have HX := hid hX
      have Hbl := hid (show i < (bv (upL L i)).length by rw [bv_length, upL_len _ _ (by rw [HLl.out]; exact hi), HLl.out]; exact hli)
      clear hX
      go_wp2_with (refine wpList_put rfl _ _ _ rfl rfl (bt X) (by rw [← HX.out]; first | exact congrArg bt (shr64_b _ _) | exact congrArg bt ((shr64_b _ _).trans (by rw [UInt32.toNat_toUInt64]))) rfl b1 Hbl.out (by kernel_rfl) ?_; intro w2 f2 b2 hs2; simp only [World.size_alloc, World.size_drew, Act.put, List.setIfInBounds_toArray, List.set_cons_succ, List.set_cons_zero])
      rw [← bv_set, Hset.out] at b2
      go_roundw
      case rel => exact ⟨i + 1, by omega, by go_num, b2, f.trans f2 (by simp; have := HN.out; omega)⟩
      case measure => simp [intOf]; omega
    · have hd : decide (i < n) = false := by simp; omega
      have ei : i = L.length := by rw [HLl.out]; omega
      rw [ei, upL_all] at b1
      clear ei hi hli
      go_wp2_with (refine wpList_string_of_bytes rfl 49 9 5 _ rfl n n rfl b1 L HLl.out (by rw [List.drop_zero, ← bv_length, List.take_length]) Try.underlying49 Try.underlying5 Try.underlying9 ?_; simp only [World.size_alloc, World.size_drew, Act.put, List.setIfInBounds_toArray, List.set_cons_succ, List.set_cons_zero])
      go_ret
      exact ⟨rfl, f⟩
set_option maxRecDepth 20000 in
theorem put64_any {w : World} (x : UInt64) (n : Nat) (hn : n ≤ 8) : Calls Try.prog 73 #[W64 x, .int .i64 (n : Int)] w fun e w' => e = .returned (.string ⟨(leN x.toNat n).toArray⟩) ∧ Fr [] w w' := by
  obtain ⟨i5, hi5, hz5, hs5, hb5⟩ := infB8
  have Hi := hid hi5
  have Hz := hid hz5
  have Hs := hid hs5
  have Hb := hid hb5
  clear hi5 hz5 hs5 hb5
  obtain ⟨L, hL⟩ : ∃ L, leN x.toNat n = L := ⟨_, rfl⟩
  have HLl := hid (show L.length = n by rw [← hL, leN_len])
  have HLg := hid (show ∀ i, i < n → L[i]? = some (UInt8.ofNat (x.toNat / 2 ^ (8 * i))) from fun i hi => by rw [← hL]; exact leN_get _ _ _ hi)
  rw [hL]
  clear hL
  go_enter Try.func73, Try.ntmps73
  go_wp2_with (refine wpList_make_blk rfl _ _ _ rfl n n .i64 .i64 rfl rfl 5 _ _ 1 Try.underlying49 Hi.out Hz.out Hs.out Hb.out rfl (Nat.le_refl _) (by omega) (by omega) ?_; intro w1 f1 hlt1 hb1; simp only [World.size_alloc, World.size_drew, Act.put, List.setIfInBounds_toArray, List.set_cons_succ, List.set_cons_zero])
  obtain ⟨N, hN⟩ : ∃ N, w.heap.size = N := ⟨_, rfl⟩
  rw [hN] at hb1 hlt1 ⊢
  have HN := hid hN
  have q1 : Blk w1 N (bv (upL L 0)) := by rw [upL_zero, HLl.out, bv_replicate]; exact hb1
  clear hb1 hN
  go_loopw [11] (fun iv wr => ∃ i : Nat, i ≤ n ∧ iv = .int .i64 i ∧ Blk wr N (bv (upL L i)) ∧ Fr [] w wr) (fun iv _ => n - (intOf iv).toNat)
  case atStart => exact ⟨0, by omega, rfl, q1, f1⟩
  case round =>
    obtain ⟨i, hi, rfl, b1, f⟩ := hrel
    clear q1 f1
    by_cases hli : i < n
    · have hd : decide (i < n) = true := by simp; omega
      have hm : 8 * (i : Int) ≤ 56 := by omega
      have hm0 : (0 : Int) ≤ 8 * (i : Int) := by omega
      have hsr : ∀ (t : TypeId) (a : UInt64), binOp .shr t (W64 a) (.int .u64 (8 * (i : Int))) = pure (W64 (shr64 a (8 * i))) := fun t a => by
        have := shr_u64 t a .u64 (8 * (i : Int)) hm0
        rw [show (8 * (i : Int)).toNat = 8 * i by omega] at this
        exact this
      obtain ⟨X, hX⟩ : ∃ X, UInt8.ofNat (x.toNat / 2 ^ (8 * i)) = X := ⟨_, rfl⟩
      have Hset := hid (show (upL L i).set i X = upL L (i + 1) from upL_set _ _ _ (by rw [HLg.out i hli, hX]))
      have HX := hid hX
      have Hbl := hid (show i < (bv (upL L i)).length by rw [bv_length, upL_len _ _ (by rw [HLl.out]; exact hi), HLl.out]; exact hli)
      clear hX
      go_wp2_with (refine wpList_put rfl _ _ _ rfl rfl (bt X) (by rw [← HX.out]; first | exact congrArg bt (shr64_b _ _) | exact congrArg bt ((shr64_b _ _).trans (by rw [UInt32.toNat_toUInt64]))) rfl b1 Hbl.out (by kernel_rfl) ?_; intro w2 f2 b2 hs2; simp only [World.size_alloc, World.size_drew, Act.put, List.setIfInBounds_toArray, List.set_cons_succ, List.set_cons_zero])
      rw [← bv_set, Hset.out] at b2
      go_roundw
      case rel => exact ⟨i + 1, by omega, by go_num, b2, f.trans f2 (by simp; have := HN.out; omega)⟩
      case measure => simp [intOf]; omega
    · have hd : decide (i < n) = false := by simp; omega
      have ei : i = L.length := by rw [HLl.out]; omega
      rw [ei, upL_all] at b1
      clear ei hi hli
      go_wp2_with (refine wpList_string_of_bytes rfl 49 9 5 _ rfl n n rfl b1 L HLl.out (by rw [List.drop_zero, ← bv_length, List.take_length]) Try.underlying49 Try.underlying5 Try.underlying9 ?_; simp only [World.size_alloc, World.size_drew, Act.put, List.setIfInBounds_toArray, List.set_cons_succ, List.set_cons_zero])
      go_ret
      exact ⟨rfl, f⟩
set_option maxRecDepth 20000 in
theorem u32_any {w : World} (x : UInt32) : Calls Try.prog 65 #[W32 x] w fun e w' => e = .returned (.string ⟨(leN x.toNat 4).toArray⟩) ∧ Fr [] w w' := by
  go_enter Try.func65, Try.ntmps65
  go_wp2_with fail
  refine (put32_any x 4 (by decide)).mono ?_
  rintro e w1 ⟨rfl, f1⟩
  go_wp2_with fail
  go_ret
  exact ⟨rfl, f1⟩
set_option maxRecDepth 20000 in
theorem u64_any {w : World} (x : UInt64) : Calls Try.prog 64 #[W64 x] w fun e w' => e = .returned (.string ⟨(leN x.toNat 8).toArray⟩) ∧ Fr [] w w' := by
  go_enter Try.func64, Try.ntmps64
  go_wp2_with fail
  refine (put64_any x 8 (by decide)).mono ?_
  rintro e w1 ⟨rfl, f1⟩
  go_wp2_with fail
  go_ret
  exact ⟨rfl, f1⟩
end Go.Proofs.Ytgafefecookgaaa.rcd

/- Layer 21, record: a text padded. -/
namespace Go.Xr
open Go
set_option linter.unusedVariables false
theorem pad_splice (s : List UInt8) (n : Nat) (h : s.length + 4 ≤ n) (A : List UInt8) (hA : A.length = 4) (he : leN s.length 4 = A) :
    splice (splice (bv (List.replicate n 0)) 0 (bv A)) 4 (bv s) = bv (padB s n) := by
  have e1 : splice (bv (List.replicate n 0)) 0 (bv A) = bv (A ++ List.replicate (n - 4) 0) := by
    simp [splice, bv_replicate, hA]
  rw [e1]
  unfold splice padB
  rw [he, bv_take, bv_drop, bv_length, List.take_append_of_le_length (by omega), List.take_of_length_le (by omega), List.drop_append, List.drop_eq_nil_of_le (by omega), List.nil_append, hA, List.drop_replicate, ← bv_append, ← bv_append]
  congr 3
  omega
end Go.Xr
namespace Go.Proofs.Ytgafefecookgaaa.rcd
open Go Go.Xr Go.RowKit
set_option linter.unusedVariables false
set_option linter.unusedSimpArgs false
def padS (s : ByteArray) (n : Nat) : ByteArray := ⟨(padB s.data.toList n).toArray⟩
set_option maxRecDepth 20000 in
theorem sz1 : (Try.prog.info? 5).map (·.size) = some 1 := rfl
theorem toNat32 (m : Nat) (h : m ≤ 16384) : (UInt32.ofNat m).toNat = m := by
  rw [UInt32.toNat_ofNat']
  omega
theorem toNat64 (m : Nat) (h : m ≤ 16384) : (UInt64.ofNat m).toNat = m := by
  rw [UInt64.toNat_ofNat']
  omega

end Go.Proofs.Ytgafefecookgaaa.rcd

/- Layer 21, record: numbers read off bytes, the lowest first; readers. -/
namespace Go.Xr
open Go
set_option linter.unusedVariables false
/-- The number that bytes are, the lowest first. -/
def leV : List UInt8 → Nat
  | [] => 0
  | b :: r => b.toNat + 256 * leV r
theorem leV_lt : ∀ l : List UInt8, leV l < 256 ^ l.length
  | [] => by simp [leV]
  | b :: r => by
    have h := leV_lt r
    have hb := b.toNat_lt
    rw [leV, List.length_cons, Nat.pow_succ]
    omega
theorem leV_snoc : ∀ (l : List UInt8) (b : UInt8), leV (l ++ [b]) = leV l + b.toNat * 256 ^ l.length
  | [], b => by simp [leV]
  | a :: r, b => by
    rw [List.cons_append, leV, leV, leV_snoc r b, List.length_cons, Nat.pow_succ, Nat.mul_add]
    rw [show 256 * (b.toNat * 256 ^ r.length) = b.toNat * (256 ^ r.length * 256) by ac_rfl]
    omega
theorem shl64_nat (a : UInt64) (n : Nat) : (shl64 a n).toNat = a.toNat * 2 ^ n % 2 ^ 64 := by
  show (a.toBitVec <<< n).toNat = _
  rw [BitVec.toNat_shiftLeft, Nat.shiftLeft_eq]
  rfl
theorem or_nat (a b : UInt64) : (a ||| b).toNat = a.toNat ||| b.toNat := UInt64.toNat_or a b
/-- From the front: one more byte laid upon the number. -/
theorem get_step (l : List UInt8) (i : Nat) (h : i < l.length) (h8 : i < 4) :
    UInt64.ofNat (leV (l.take i)) ||| shl64 (l[i]).toUInt64 (8 * i) = UInt64.ofNat (leV (l.take (i + 1))) := by
  have e : l.take (i + 1) = l.take i ++ [l[i]] := List.take_succ_eq_append_getElem h
  have hl : (l.take i).length = i := by rw [List.length_take]; omega
  have h1 := leV_lt (l.take i)
  have h2 := leV_lt (l.take (i + 1))
  rw [hl] at h1
  rw [show (l.take (i + 1)).length = i + 1 by rw [List.length_take]; omega] at h2
  have hp : ∀ j, (256 : Nat) ^ j = 2 ^ (8 * j) := fun j => by rw [show (256 : Nat) = 2 ^ 8 from rfl, ← Nat.pow_mul]
  rw [hp] at h1 h2
  have hb := (l[i]).toNat_lt
  have h32 : 2 ^ (8 * (i + 1)) ≤ (2 : Nat) ^ 32 := Nat.pow_le_pow_right (by decide) (by omega)
  have h32' : 2 ^ (8 * i) ≤ (2 : Nat) ^ 24 := Nat.pow_le_pow_right (by decide) (by omega)
  have hbm : (l[i]).toNat * 2 ^ (8 * i) < 2 ^ 32 := by
    have : (l[i]).toNat * 2 ^ (8 * i) ≤ 255 * 2 ^ 24 := Nat.mul_le_mul (by omega) h32'
    omega
  apply UInt64.toNat_inj.1
  rw [or_nat, shl64_nat, UInt64.toNat_ofNat', UInt64.toNat_ofNat', UInt8.toNat_toUInt64, Nat.mod_eq_of_lt (by omega), Nat.mod_eq_of_lt (by omega), Nat.mod_eq_of_lt (by omega), e, leV_snoc, hl, hp]
  rw [Nat.or_comm, Nat.mul_comm, ← Nat.two_pow_add_eq_or_of_lt h1]
  omega
/-- From behind. -/
theorem num_step (b : UInt8) (r : List UInt8) (h : r.length < 4) : shl64 (UInt64.ofNat (leV r)) 8 ||| b.toUInt64 = UInt64.ofNat (leV (b :: r)) := by
  have h1 := leV_lt r
  have hb := b.toNat_lt
  have h24 : (256 : Nat) ^ r.length ≤ 256 ^ 3 := Nat.pow_le_pow_right (by decide) (by omega)
  apply UInt64.toNat_inj.1
  rw [or_nat, shl64_nat, UInt64.toNat_ofNat', UInt64.toNat_ofNat', UInt8.toNat_toUInt64, Nat.mod_eq_of_lt (by omega), Nat.mod_eq_of_lt (by omega), leV, Nat.mod_eq_of_lt (by omega)]
  rw [Nat.mul_comm, ← Nat.two_pow_add_eq_or_of_lt (show b.toNat < 2 ^ 8 by omega)]
  omega
theorem leV_le4 (l : List UInt8) (h : l.length ≤ 4) : leV l < 4294967296 := by
  have h1 := leV_lt l
  have h24 : (256 : Nat) ^ l.length ≤ 256 ^ 4 := Nat.pow_le_pow_right (by decide) h
  omega
theorem leV_leN (m : Nat) (h : m < 4294967296) : leV (leN m 4) = m := by
  have e : leN m 4 = [UInt8.ofNat (m / 2 ^ 0), UInt8.ofNat (m / 2 ^ 8), UInt8.ofNat (m / 2 ^ 16), UInt8.ofNat (m / 2 ^ 24)] := rfl
  rw [e]
  simp only [leV, UInt8.toNat_ofNat']
  omega
/-- A reader in memory. -/
def rdrL (s : ByteArray) (at' : Nat) (fault : Int) : List Value := [.string s, .int .i64 (at' : Int), .int .i64 fault, .bool true]
/-- The document's. -/
def rdrR (s : ByteArray) (at' : Nat) (fault : Int) : List Value := [.string s, .int .i64 (at' : Int), .int .i64 fault]
end Go.Xr
namespace Go.Proofs.Ytgafefecookgaaa.rcd
open Go Go.Xr Go.RowKit
set_option linter.unusedVariables false
set_option linter.unusedSimpArgs false

set_option maxRecDepth 20000 in
theorem rnew_any {w : World} (s : ByteArray) : Calls Try.prog 69 #[.string s] w fun e w' => e = .returned (.pointer (some ⟨w.heap.size, 0, none⟩)) ∧ Blk w' w.heap.size (rdrL s 0 0) ∧ w.heap.size < w'.heap.size ∧ Fr [] w w' := by
  go_enter Try.func69, Try.ntmps69
  go_wp2_with fail
  go_ret
  exact ⟨rfl, Blk.alloc w (rdrL s 0 0) _, by simp, (Fr.refl [] w).alloc _⟩
set_option maxRecDepth 20000 in
theorem bytes_fault {w : World} {p at' : Nat} {f : Int} (s : ByteArray) (n : Int) (h : Blk w p (rdrL s at' f)) (hf : f ≠ 0) : Calls Try.prog 94 #[.pointer (some ⟨p, 0, none⟩), .int .i64 n] w fun e w' => e = .returned (.string ⟨#[]⟩) ∧ w = w' := by
  have k2 : w.cell? ⟨p, 2, none⟩ = some (.int .i64 f) := h.cell 2
  have k3 : w.cell? ⟨p, 3, none⟩ = some (.bool true) := h.cell 3
  have hd : (f != 0) = true := by simpa using hf
  clear hf
  go_enter Try.func94, Try.ntmps94
  go_wp2_with fail
  go_ret
  exact ⟨rfl, rfl⟩
set_option maxRecDepth 20000 in
set_option maxHeartbeats 1000000 in
theorem bytes_any {w : World} {p at' : Nat} (s : ByteArray) (n : Nat) (h : Blk w p (rdrL s at' 0)) (hn : at' + n ≤ s.size) (hs : s.size ≤ 140737488355328) : Calls Try.prog 94 #[.pointer (some ⟨p, 0, none⟩), .int .i64 (n : Int)] w fun e w' => e = .returned (.string (s.extract at' (at' + n))) ∧ Blk w' p (rdrL s (at' + n) 0) ∧ Fr [p] w w' := by
  have k0 : w.cell? ⟨p, 0, none⟩ = some (.string s) := h.cell 0
  have k1 : w.cell? ⟨p, 1, none⟩ = some (.int .i64 (at' : Int)) := h.cell 1
  have k2 : w.cell? ⟨p, 2, none⟩ = some (.int .i64 0) := h.cell 2
  have k3 : w.cell? ⟨p, 3, none⟩ = some (.bool true) := h.cell 3
  have h0 : w.drew.cell? ⟨p, 0, none⟩ = some (.string s) := k0
  have h1 : w.drew.cell? ⟨p, 1, none⟩ = some (.int .i64 (at' : Int)) := k1
  have hd1 : decide ((n : Int) < 0) = false := by simp
  have hd2 : decide ((s.size : Int) - (at' : Int) < (n : Int)) = false := by simp; omega
  have h3 : (at' : Int) + (n : Int) ≤ 140737488355328 := by omega
  have hb := h.drew
  have hlen : 1 < (rdrL s at' 0).length := by simp [rdrL]
  go_enter Try.func94, Try.ntmps94
  go_wp2_with fail
  refine wp_region_D (fun _ => True) false [] (by kernel_rfl) ?_
  refine WD.pure [0, 1, 2, 3, 4, 5, 6, 7, 8, 9, 10, 11, 12] (by kernel_rfl) trivial ?_
  simp only [pick, List.toList_toArray, List.map_cons, List.map_nil, List.getD_cons_succ, List.getD_cons_zero]
  repeat (first | go_big_quiet_step (fail))
  refine wpQuiet_nil ?_
  refine WD.done (by kernel_rfl) ?_
  clear h0 h1 k0 k1 k2 k3
  have k1 : w.drew.cell? ⟨p, 1, none⟩ = some (.int .i64 (at' : Int)) := hb.cell 1
  go_wp2_with (refine wpList_put rfl _ _ _ rfl rfl (.int .i64 ((at' + n : Nat) : Int)) (by rw [Int.natCast_add]; rfl) rfl hb hlen (by kernel_rfl) ?_; intro w2 f2 b2 hs2; simp only [World.size_alloc, World.size_drew, Act.put, List.setIfInBounds_toArray, List.set_cons_succ, List.set_cons_zero])
  have j0 : w2.drew.cell? ⟨p, 0, none⟩ = some (.string s) := b2.cell 0
  have j1 : w2.drew.cell? ⟨p, 1, none⟩ = some (.int .i64 ((at' + n : Nat) : Int)) := b2.cell 1
  have hsub : ((at' + n : Nat) : Int) - (n : Int) = (at' : Int) := by omega
  refine wp_region_D (fun _ => True) false [] (by kernel_rfl) ?_
  refine WD.pure [0, 1, 2, 3, 4, 5, 6, 7, 8, 9, 10, 11, 12, 13, 14, 15] (by kernel_rfl) trivial ?_
  simp only [pick, List.toList_toArray, List.map_cons, List.map_nil, List.getD_cons_succ, List.getD_cons_zero]
  repeat (first | (refine quiet_slice_vW (by rfl) _ _ _ _ rfl _ rfl _ _ rfl rfl (.string (s.extract at' (at' + n))) (fun w0 _ => run_slice_s w0 _ Try.underlying9 s .i64 .i64 _ _ at' (at' + n) (by omega) rfl (by omega) hn) ?_; simp only [World.size_alloc, World.size_drew, Act.put, List.setIfInBounds_toArray, List.set_cons_succ, List.set_cons_zero]) | go_big_quiet_step (fail))
  refine wpQuiet_nil ?_
  refine WD.done (by kernel_rfl) ?_
  go_wp2_with fail
  go_ret
  exact ⟨rfl, b2.drew, (((Fr.refl [p] w).drew).trans' f2).drew⟩
set_option maxRecDepth 20000 in
theorem bytes_short {w : World} {p at' : Nat} (s : ByteArray) (n : Nat) (h : Blk w p (rdrL s at' 0)) (hn : s.size < at' + n) (ha : at' ≤ s.size) (hs : s.size ≤ 140737488355328) (hm : n ≤ 9223372036854775807) : Calls Try.prog 94 #[.pointer (some ⟨p, 0, none⟩), .int .i64 (n : Int)] w fun e w' => e = .returned (.string ⟨#[]⟩) ∧ Blk w' p (rdrL s at' 50) ∧ Fr [p] w w' := by
  have k0 : w.cell? ⟨p, 0, none⟩ = some (.string s) := h.cell 0
  have k1 : w.cell? ⟨p, 1, none⟩ = some (.int .i64 (at' : Int)) := h.cell 1
  have k2 : w.cell? ⟨p, 2, none⟩ = some (.int .i64 0) := h.cell 2
  have k3 : w.cell? ⟨p, 3, none⟩ = some (.bool true) := h.cell 3
  have h0 : w.drew.cell? ⟨p, 0, none⟩ = some (.string s) := k0
  have h1 : w.drew.cell? ⟨p, 1, none⟩ = some (.int .i64 (at' : Int)) := k1
  have hd1 : decide ((n : Int) < 0) = false := by simp
  have hd2 : decide ((s.size : Int) - (at' : Int) < (n : Int)) = true := by simp; omega
  have hb := h.drew
  have hlen : 2 < (rdrL s at' 0).length := by simp [rdrL]
  go_enter Try.func94, Try.ntmps94
  go_wp2_with fail
  refine wp_region_D (fun _ => True) false [] (by kernel_rfl) ?_
  refine WD.pure [0, 1, 2, 3, 4, 5, 6, 7, 8, 9, 10, 11, 12] (by kernel_rfl) trivial ?_
  simp only [pick, List.toList_toArray, List.map_cons, List.map_nil, List.getD_cons_succ, List.getD_cons_zero]
  repeat (first | go_big_quiet_step (fail))
  refine wpQuiet_nil ?_
  refine WD.done (by kernel_rfl) ?_
  clear h0 h1 k0 k1 k2 k3
  go_wp2_with (refine wpList_put rfl _ _ _ rfl rfl (.int .i64 50) rfl rfl hb hlen (by kernel_rfl) ?_; intro w2 f2 b2 hs2; simp only [World.size_alloc, World.size_drew, Act.put, List.setIfInBounds_toArray, List.set_cons_succ, List.set_cons_zero])
  go_ret
  exact ⟨rfl, b2, ((Fr.refl [p] w).drew).trans' f2⟩
end Go.Proofs.Ytgafefecookgaaa.rcd
