/- Layer 10, merkle: a number's bytes; texts joined; digests of leaves and of groups. -/
import Derived.Test.YthfjjencnfebmaaMerJ
import Derived.Test.YthfjjencnfebmaaGSha
import Derived.Test.YthfjjencnfebmaaGCore
import Derived.Test.YthfjjencnfebmaaAppS
import Derived.LoopN
import Derived.WalkLawsBesides
import Derived.WalkSpells
namespace Go.Xr
open Go
set_option linter.unusedVariables false
/-- So many bytes of a number, the lowest first. -/
def leN (m n : Nat) : List UInt8 := (List.range n).map fun i => UInt8.ofNat (m / 2 ^ (8 * i))
theorem leN_len (m n : Nat) : (leN m n).length = n := by simp [leN]
theorem leN_get (m n i : Nat) (h : i < n) : (leN m n)[i]? = some (UInt8.ofNat (m / 2 ^ (8 * i))) := by simp [leN, h]
theorem shr64_b (a : UInt64) (n : Nat) : (shr64 a n).toUInt8 = UInt8.ofNat (a.toNat / 2 ^ n) := by
  apply UInt8.toNat_inj.1
  have h1 : (shr64 a n).toNat = a.toNat / 2 ^ n := by
    show (a.toBitVec >>> n).toNat = a.toNat / 2 ^ n
    rw [BitVec.toNat_ushiftRight, Nat.shiftRight_eq_div_pow]
    rfl
  rw [UInt64.toNat_toUInt8, h1, UInt8.toNat_ofNat']
/-- The first i bytes of l, then 0. -/
def upL (l : List UInt8) (i : Nat) : List UInt8 := l.take i ++ List.replicate (l.length - i) 0
theorem upL_len (l : List UInt8) (i : Nat) (h : i ≤ l.length) : (upL l i).length = l.length := by simp [upL]; omega
theorem upL_zero (l : List UInt8) : upL l 0 = List.replicate l.length 0 := by simp [upL]
theorem upL_all (l : List UInt8) : upL l l.length = l := by simp [upL]
theorem upL_set (l : List UInt8) (i : Nat) (c : UInt8) (h : l[i]? = some c) : (upL l i).set i c = upL l (i + 1) := by
  obtain ⟨hi, hc⟩ := List.getElem?_eq_some_iff.1 h
  unfold upL
  have e : l.length - i = (l.length - (i + 1)) + 1 := by omega
  rw [List.set_append_right _ _ (by rw [List.length_take]; omega), List.length_take, Nat.min_eq_left (by omega), Nat.sub_self, e, List.replicate_succ, List.set_cons_zero, List.take_succ_eq_append_getElem hi, List.append_assoc, hc]
  rfl
/-- Texts, one behind the other. -/
def catS (l : List ByteArray) : ByteArray := ⟨(l.flatMap fun s => s.data.toList).toArray⟩
theorem catS_size (l : List ByteArray) : (catS l).size = (l.map ByteArray.size).sum := by
  unfold catS
  rw [size_mk', List.length_flatMap]
  congr 1
theorem join_nil2 (xs : List (List UInt8)) : Lib.join xs [] = xs.flatten := by
  cases xs with
  | nil => rfl
  | cons x r =>
    rw [Lib.join_cons]
    simp [Lib.joinTail]
end Go.Xr
namespace Go.Proofs.Ythfjjencnfebmaa.mer
open Go Go.Xr Go.RowKit
set_option linter.unusedVariables false
set_option linter.unusedSimpArgs false
set_option maxRecDepth 20000 in
theorem infB8 : ∃ i, Try.prog.info? 5 = some i ∧ i.zero = some (bt 0) ∧ i.size = 1 ∧ i.bytes = 1 := ⟨_, rfl, rfl, rfl, rfl⟩
set_option maxRecDepth 20000 in
theorem inf9 : ∃ i, Try.prog.info? 9 = some i ∧ i.zero = some (.string ⟨#[]⟩) ∧ i.size = 1 ∧ i.bytes = 16 := ⟨_, rfl, rfl, rfl, rfl⟩
theorem cv64_b (w : World) (a : UInt64) : (convert 65 5 (W64 a)).run Try.prog w = .ok (bt a.toUInt8) w := conv_u64_u8 w _ _ a Try.underlying65 Try.underlying5 rfl
attribute [local go_sem] shr_u64 cv64_b
set_option maxRecDepth 20000 in
theorem num_any {w : World} (x : UInt64) (n : Nat) (hn : n ≤ 8) : Calls Try.prog 42 #[W64 x, .int .i64 (n : Int)] w fun e w' => e = .returned (.string ⟨(leN x.toNat n).toArray⟩) ∧ Fr [] w w' := by
  obtain ⟨i5, hi5, hz5, hs5, hb5⟩ := infB8
  have Hi := hid hi5
  have Hz := hid hz5
  have Hs := hid hs5
  have Hb := hid hb5
  clear hi5 hz5 hs5 hb5
  obtain ⟨L, hL⟩ : ∃ L, leN x.toNat n = L := ⟨_, rfl⟩
  have HLl := hid (show L.length = n by rw [← hL, leN_len])
  have HLg := hid (show ∀ i, i < n → L[i]? = some (UInt8.ofNat (x.toNat / 2 ^ (8 * i))) from fun i hi => by rw [← hL]; exact leN_get _ _ _ hi)
  rw [hL]
  clear hL
  go_enter Try.func42, Try.ntmps42
  go_wp2_with (refine wpList_make_blk rfl _ _ _ rfl n n .i64 .i64 rfl rfl 5 _ _ 1 Try.underlying64 Hi.out Hz.out Hs.out Hb.out rfl (Nat.le_refl _) (by omega) (by omega) ?_; intro w1 f1 hlt1 hb1; simp only [World.size_alloc, World.size_drew, Act.put, List.setIfInBounds_toArray, List.set_cons_succ, List.set_cons_zero])
  obtain ⟨N, hN⟩ : ∃ N, w.heap.size = N := ⟨_, rfl⟩
  rw [hN] at hb1 hlt1 ⊢
  have HN := hid hN
  have q1 : Blk w1 N (bv (upL L 0)) := by rw [upL_zero, HLl.out, bv_replicate]; exact hb1
  clear hb1 hN
  go_loopw [6] (fun iv wr => ∃ i : Nat, i ≤ n ∧ iv = .int .i64 i ∧ Blk wr N (bv (upL L i)) ∧ Fr [] w wr) (fun iv _ => n - (intOf iv).toNat)
  case atStart => exact ⟨0, by omega, rfl, q1, f1⟩
  case round =>
    obtain ⟨i, hi, rfl, b1, f⟩ := hrel
    clear q1 f1
    by_cases hli : i < n
    · have hd : decide (i < n) = true := by simp; omega
      have hm : 8 * (i : Int) ≤ 56 := by omega
      have hm0 : (0 : Int) ≤ 8 * (i : Int) := by omega
      have hsr : ∀ (t : TypeId) (a : UInt64), binOp .shr t (W64 a) (.int .u64 (8 * (i : Int))) = pure (W64 (shr64 a (8 * i))) := fun t a => by
        have := shr_u64 t a .u64 (8 * (i : Int)) hm0
        rw [show (8 * (i : Int)).toNat = 8 * i by omega] at this
        exact this
      obtain ⟨X, hX⟩ : ∃ X, UInt8.ofNat (x.toNat / 2 ^ (8 * i)) = X := ⟨_, rfl⟩
      have Hset := hid (show (upL L i).set i X = upL L (i + 1) from upL_set _ _ _ (by rw [HLg.out i hli, hX]))
      have HX := hid hX
      have Hbl := hid (show i < (bv (upL L i)).length by rw [bv_length, upL_len _ _ (by rw [HLl.out]; exact hi), HLl.out]; exact hli)
      clear hX
      go_wp2_with (refine wpList_put rfl _ _ _ rfl rfl (bt X) (by rw [← HX.out]; first | exact congrArg bt (shr64_b _ _) | exact congrArg bt ((shr64_b _ _).trans (by rw [UInt32.toNat_toUInt64]))) rfl b1 Hbl.out (by kernel_rfl) ?_; intro w2 f2 b2 hs2; simp only [World.size_alloc, World.size_drew, Act.put, List.setIfInBounds_toArray, List.set_cons_succ, List.set_cons_zero])
      rw [← bv_set, Hset.out] at b2
      go_roundw
      case rel => exact ⟨i + 1, by omega, by go_num, b2, f.trans f2 (by simp; have := HN.out; omega)⟩
      case measure => simp [intOf]; omega
    · have hd : decide (i < n) = false := by simp; omega
      have ei : i = L.length := by rw [HLl.out]; omega
      rw [ei, upL_all] at b1
      clear ei hi hli
      go_wp2_with (refine wpList_string_of_bytes rfl 64 9 5 _ rfl n n rfl b1 L HLl.out (by rw [List.drop_zero, ← bv_length, List.take_length]) Try.underlying64 Try.underlying5 Try.underlying9 ?_; simp only [World.size_alloc, World.size_drew, Act.put, List.setIfInBounds_toArray, List.set_cons_succ, List.set_cons_zero])
      go_ret
      exact ⟨rfl, f⟩
set_option maxRecDepth 20000 in
theorem put64_any {w : World} (x : UInt64) (n : Nat) (hn : n ≤ 8) : Calls Try.prog 53 #[W64 x, .int .i64 (n : Int)] w fun e w' => e = .returned (.string ⟨(leN x.toNat n).toArray⟩) ∧ Fr [] w w' := by
  obtain ⟨i5, hi5, hz5, hs5, hb5⟩ := infB8
  have Hi := hid hi5
  have Hz := hid hz5
  have Hs := hid hs5
  have Hb := hid hb5
  clear hi5 hz5 hs5 hb5
  obtain ⟨L, hL⟩ : ∃ L, leN x.toNat n = L := ⟨_, rfl⟩
  have HLl := hid (show L.length = n by rw [← hL, leN_len])
  have HLg := hid (show ∀ i, i < n → L[i]? = some (UInt8.ofNat (x.toNat / 2 ^ (8 * i))) from fun i hi => by rw [← hL]; exact leN_get _ _ _ hi)
  rw [hL]
  clear hL
  go_enter Try.func53, Try.ntmps53
  go_wp2_with (refine wpList_make_blk rfl _ _ _ rfl n n .i64 .i64 rfl rfl 5 _ _ 1 Try.underlying64 Hi.out Hz.out Hs.out Hb.out rfl (Nat.le_refl _) (by omega) (by omega) ?_; intro w1 f1 hlt1 hb1; simp only [World.size_alloc, World.size_drew, Act.put, List.setIfInBounds_toArray, List.set_cons_succ, List.set_cons_zero])
  obtain ⟨N, hN⟩ : ∃ N, w.heap.size = N := ⟨_, rfl⟩
  rw [hN] at hb1 hlt1 ⊢
  have HN := hid hN
  have q1 : Blk w1 N (bv (upL L 0)) := by rw [upL_zero, HLl.out, bv_replicate]; exact hb1
  clear hb1 hN
  go_loopw [11] (fun iv wr => ∃ i : Nat, i ≤ n ∧ iv = .int .i64 i ∧ Blk wr N (bv (upL L i)) ∧ Fr [] w wr) (fun iv _ => n - (intOf iv).toNat)
  case atStart => exact ⟨0, by omega, rfl, q1, f1⟩
  case round =>
    obtain ⟨i, hi, rfl, b1, f⟩ := hrel
    clear q1 f1
    by_cases hli : i < n
    · have hd : decide (i < n) = true := by simp; omega
      have hm : 8 * (i : Int) ≤ 56 := by omega
      have hm0 : (0 : Int) ≤ 8 * (i : Int) := by omega
      have hsr : ∀ (t : TypeId) (a : UInt64), binOp .shr t (W64 a) (.int .u64 (8 * (i : Int))) = pure (W64 (shr64 a (8 * i))) := fun t a => by
        have := shr_u64 t a .u64 (8 * (i : Int)) hm0
        rw [show (8 * (i : Int)).toNat = 8 * i by omega] at this
        exact this
      obtain ⟨X, hX⟩ : ∃ X, UInt8.ofNat (x.toNat / 2 ^ (8 * i)) = X := ⟨_, rfl⟩
      have Hset := hid (show (upL L i).set i X = upL L (i + 1) from upL_set _ _ _ (by rw [HLg.out i hli, hX]))
      have HX := hid hX
      have Hbl := hid (show i < (bv (upL L i)).length by rw [bv_length, upL_len _ _ (by rw [HLl.out]; exact hi), HLl.out]; exact hli)
      clear hX
      go_wp2_with (refine wpList_put rfl _ _ _ rfl rfl (bt X) (by rw [← HX.out]; first | exact congrArg bt (shr64_b _ _) | exact congrArg bt ((shr64_b _ _).trans (by rw [UInt32.toNat_toUInt64]))) rfl b1 Hbl.out (by kernel_rfl) ?_; intro w2 f2 b2 hs2; simp only [World.size_alloc, World.size_drew, Act.put, List.setIfInBounds_toArray, List.set_cons_succ, List.set_cons_zero])
      rw [← bv_set, Hset.out] at b2
      go_roundw
      case rel => exact ⟨i + 1, by omega, by go_num, b2, f.trans f2 (by simp; have := HN.out; omega)⟩
      case measure => simp [intOf]; omega
    · have hd : decide (i < n) = false := by simp; omega
      have ei : i = L.length := by rw [HLl.out]; omega
      rw [ei, upL_all] at b1
      clear ei hi hli
      go_wp2_with (refine wpList_string_of_bytes rfl 64 9 5 _ rfl n n rfl b1 L HLl.out (by rw [List.drop_zero, ← bv_length, List.take_length]) Try.underlying64 Try.underlying5 Try.underlying9 ?_; simp only [World.size_alloc, World.size_drew, Act.put, List.setIfInBounds_toArray, List.set_cons_succ, List.set_cons_zero])
      go_ret
      exact ⟨rfl, f⟩
/-- The eight bytes of a number. -/
def n8le (x : UInt64) : ByteArray := ⟨(leN x.toNat 8).toArray⟩
theorem n8le_size (x : UInt64) : (n8le x).size = 8 := by rw [n8le, size_mk', leN_len]
set_option maxRecDepth 20000 in
theorem u64_any {w : World} (x : UInt64) : Calls Try.prog 43 #[W64 x] w fun e w' => e = .returned (.string (n8le x)) ∧ Fr [] w w' := by
  go_enter Try.func43, Try.ntmps43
  go_wp2_with fail
  refine (put64_any x 8 (by decide)).mono ?_
  rintro e w1 ⟨rfl, f1⟩
  go_wp2_with fail
  go_ret
  exact ⟨rfl, f1⟩
theorem join_any {w : World} {v : Value} {l : List ByteArray} {B : Option Nat} (h : Rc w 1 v l.length (l.map .string) B) (hl : l.length ≤ 140737488355328) (hs : (catS l).size ≤ 140737488355328) :
    Calls Try.prog 40 #[v, .string ⟨#[]⟩] w fun e w' => e = .returned (.string (catS l)) ∧ Fr [] w w' := by
  have hj : Lib.join (l.map (·.data.toList)) [] = l.flatMap fun s => s.data.toList := by rw [join_nil2, List.flatMap_def]
  obtain ⟨a, c, rfl⟩ := h.isSlice
  rcases Nat.eq_zero_or_pos l.length with h0 | h0
  · obtain rfl : l = [] := List.eq_nil_of_length_eq_zero h0
    refine (shf_strings_Join_none a c ⟨#[]⟩ w).mono ?_
    rintro e w' ⟨rfl, rfl⟩
    exact ⟨rfl, Fr.refl _ _⟩
  · obtain ⟨b, off, c', hB, hv, h1, h2, h3, h4⟩ := h.some h0
    obtain ⟨rfl, rfl⟩ : a = some ⟨b, off, none⟩ ∧ c = c' := by simpa using hv
    refine (shf_strings_Join b off c l ⟨#[]⟩ w (fun j x hx => ?_) h3 hl h1 ?_).mono ?_
    · have hjl : j < l.length := by
        by_cases hh : j < l.length
        · exact hh
        · rw [List.getElem?_eq_none (by omega)] at hx; cases hx
      rw [h4 j (by simpa using hjl), List.getElem?_map, hx]
      rfl
    · show (Lib.join (l.map (·.data.toList)) []).length ≤ _
      rw [hj]
      have := catS_size l
      unfold catS at hs
      rw [size_mk'] at hs
      exact hs
    · rintro e w' ⟨rfl, hb⟩
      refine ⟨?_, Fr.of_below hb (Nat.le_refl _)⟩
      show Ending.returned (Value.string ⟨(Lib.join (l.map (·.data.toList)) []).toArray⟩) = _
      rw [hj]
      rfl
set_option maxRecDepth 20000 in
theorem digest_any {w : World} {v : Value} {l : List ByteArray} {B : Option Nat} (h : Rc w 1 v l.length (l.map .string) B) (hl : l.length ≤ 140737488355328) (hs : (catS l).size < 1099511627776) :
    Calls Try.prog 45 #[v] w fun e w' => e = .returned (.string (shaS (catS l))) ∧ Fr [] w w' := by
  obtain ⟨a, c, rfl⟩ := h.isSlice
  have H1 := hid (join_any h hl (by omega))
  have H2 := hid fun w0 : World => of_any (w := w0) (catS l) hs
  generalize catS l = T at H1 H2
  go_enter Try.func45, Try.ntmps45
  go_wp2_with fail
  refine H1.out.mono ?_
  rintro e w1 ⟨rfl, f1⟩
  go_wp2_with fail
  refine (H2.out _).mono ?_
  rintro e w2 ⟨rfl, f2⟩
  go_wp2_with fail
  go_ret
  exact ⟨rfl, f1.trans' f2⟩
end Go.Proofs.Ythfjjencnfebmaa.mer
