/- Layer 21, record: a text's class; a number's bytes, the lowest first; a text padded. -/
import Derived.Test.YtneoagelcjfanaaGreatDoorGCore
import Derived.Test.YtneoagelcjfanaaGreatDoorProg
import Derived.LoopN
import Derived.WalkLawsBesides
import Derived.WalkSpells
namespace Go.Xr
open Go
set_option linter.unusedVariables false
/-- The least of 64, 128 .. that is n + 4 at least. -/
def clsR (n : Nat) : Nat → Nat → Nat
  | 0, c => c
  | f + 1, c => if c < n + 4 then clsR n f (2 * c) else c
def clsN (n : Nat) : Nat := clsR n 8 64
theorem clsR_stop (n f c : Nat) (h : n + 4 ≤ c) : clsR n f c = c := by
  cases f with
  | zero => rfl
  | succ f => rw [clsR, if_neg (by omega)]
theorem clsR_le (n : Nat) : ∀ f c, c ≤ clsR n f c ∧ clsR n f c ≤ c * 2 ^ f
  | 0, c => by simp [clsR]
  | f + 1, c => by
    rw [clsR]
    have h := clsR_le n f (2 * c)
    split
    · have e : c * 2 ^ (f + 1) = 2 * c * 2 ^ f := by rw [Nat.pow_succ]; ac_rfl
      rw [e]
      exact ⟨by omega, h.2⟩
    · exact ⟨Nat.le_refl _, Nat.le_mul_of_pos_right _ (Nat.two_pow_pos _)⟩
theorem clsR_ge (n : Nat) : ∀ f c, n + 4 ≤ c * 2 ^ f → n + 4 ≤ clsR n f c
  | 0, c, h => by simpa [clsR] using h
  | f + 1, c, h => by
    rw [clsR]
    split
    · exact clsR_ge n f (2 * c) (by have e : c * 2 ^ (f + 1) = 2 * c * 2 ^ f := by rw [Nat.pow_succ]; ac_rfl
                                    omega)
    · omega
theorem clsN_ge (n : Nat) (h : n ≤ 8192) : n + 4 ≤ clsN n := clsR_ge n 8 64 (by omega)
theorem clsN_le (n : Nat) : 64 ≤ clsN n ∧ clsN n ≤ 16384 := clsR_le n 8 64
/-- So many bytes of a number, the lowest first. -/
def leN (m n : Nat) : List UInt8 := (List.range n).map fun i => UInt8.ofNat (m / 2 ^ (8 * i))
theorem leN_len (m n : Nat) : (leN m n).length = n := by simp [leN]
theorem leN_get (m n i : Nat) (h : i < n) : (leN m n)[i]? = some (UInt8.ofNat (m / 2 ^ (8 * i))) := by simp [leN, h]
theorem shr64_b (a : UInt64) (n : Nat) : (shr64 a n).toUInt8 = UInt8.ofNat (a.toNat / 2 ^ n) := by
  apply UInt8.toNat_inj.1
  have h1 : (shr64 a n).toNat = a.toNat / 2 ^ n := by
    show (a.toBitVec >>> n).toNat = a.toNat / 2 ^ n
    rw [BitVec.toNat_ushiftRight, Nat.shiftRight_eq_div_pow]
    rfl
  rw [UInt64.toNat_toUInt8, h1, UInt8.toNat_ofNat']
/-- The first i bytes of l, then 0. -/
def upL (l : List UInt8) (i : Nat) : List UInt8 := l.take i ++ List.replicate (l.length - i) 0
theorem upL_len (l : List UInt8) (i : Nat) (h : i ≤ l.length) : (upL l i).length = l.length := by simp [upL]; omega
theorem upL_zero (l : List UInt8) : upL l 0 = List.replicate l.length 0 := by simp [upL]
theorem upL_all (l : List UInt8) : upL l l.length = l := by simp [upL]
theorem upL_set (l : List UInt8) (i : Nat) (c : UInt8) (h : l[i]? = some c) : (upL l i).set i c = upL l (i + 1) := by
  obtain ⟨hi, hc⟩ := List.getElem?_eq_some_iff.1 h
  unfold upL
  have e : l.length - i = (l.length - (i + 1)) + 1 := by omega
  rw [List.set_append_right _ _ (by rw [List.length_take]; omega), List.length_take, Nat.min_eq_left (by omega), Nat.sub_self, e, List.replicate_succ, List.set_cons_zero, List.take_succ_eq_append_getElem hi, List.append_assoc, hc]
  rfl
/-- A text with its length, and 0 up to n bytes. -/
def padB (s : List UInt8) (n : Nat) : List UInt8 := leN s.length 4 ++ s ++ List.replicate (n - 4 - s.length) 0
theorem padB_len (s : List UInt8) (n : Nat) (h : s.length + 4 ≤ n) : (padB s n).length = n := by
  simp [padB, leN_len]
  omega
end Go.Xr
namespace Go.Proofs.YtneoagelcjfanaaGreatDoor.rcd
open Go Go.Xr Go.RowKit
set_option linter.unusedVariables false
set_option linter.unusedSimpArgs false
set_option maxRecDepth 20000 in
theorem infB8 : ∃ i, Tryz.prog.info? 5 = some i ∧ i.zero = some (bt 0) ∧ i.size = 1 ∧ i.bytes = 1 := ⟨_, rfl, rfl, rfl, rfl⟩

theorem clsF_any {w : World} (c : Nat) (h : c ≤ 16384) : Calls Tryz.prog 65 #[.int .i64 (c : Int)] w fun e w' => e = .returned (.int .i64 ((2 * c : Nat) : Int)) ∧ w = w' := by
  have hs : ∀ t, binOp .shl t (.int .i64 (c : Int)) (.int .u64 1) = pure (.int .i64 ((2 * c : Nat) : Int)) := by
    intro t
    have e : IntKind.i64.wrap ((c : Int) * 2) = ((2 * c : Nat) : Int) := by
      rw [show (c : Int) * 2 = ((2 * c : Nat) : Int) by omega]
      exact IntWalk.i64_in _ ⟨by omega, by omega⟩
    have := congrArg (fun x => (pure (Value.int .i64 x) : Sem Value)) e
    exact this
  go_enter Tryz.func65, Tryz.ntmps65
  go_wp2_with fail
  go_ret
  exact ⟨rfl, rfl⟩

/-- A text's class: 0 where there is none. -/
def clsI (n : Int) : Int := if 0 ≤ n ∧ n ≤ 8192 then (clsN n.toNat : Int) else 0
theorem clsI_nat (n : Nat) (h : n ≤ 8192) : clsI (n : Int) = (clsN n : Int) := by
  unfold clsI
  rw [if_pos ⟨by omega, by omega⟩, Int.toNat_natCast]

set_option maxRecDepth 20000 in
theorem class_in {w : World} (n : Nat) (h : n ≤ 8192) : Calls Tryz.prog 46 #[.int .i64 (n : Int)] w fun e w' => e = .returned (.int .i64 (clsN n : Int)) ∧ Fr [] w w' := by
  have h1 : (n : Int) ≤ 8192 := by omega
  have h2 : decide ((n : Int) < 0) = false := by simp
  have h3 : decide (8192 < (n : Int)) = false := by simp; omega
  obtain ⟨R, hR⟩ : ∃ R, clsN n = R := ⟨_, rfl⟩
  have HR := hid (show clsR n 8 64 = R from hR)
  rw [hR]
  clear hR
  go_enter Tryz.func46, Tryz.ntmps46
  go_wp2_with fail
  go_loopw [4] (fun cv wr => ∃ (f c : Nat), cv = .int .i64 c ∧ c * 2 ^ f = 16384 ∧ Hid (clsR n f c = R) ∧ Fr [] w wr) (fun cv _ => 16384 - (intOf cv).toNat)
  case atStart => exact ⟨8, 64, rfl, by decide, HR, Fr.refl _ _⟩
  case round =>
    obtain ⟨f, c, rfl, hc, hE, fr⟩ := hrel
    clear HR
    have hc1 : c ≤ 16384 := by
      have : 0 < 2 ^ f := Nat.two_pow_pos f
      have := Nat.le_mul_of_pos_right c this
      omega
    by_cases hlt : c < n + 4
    · have hd : decide ((c : Int) < (n : Int) + 4) = true := by simp; omega
      have hd' : decide (c < n + 4) = true := by simp; omega
      cases f with
      | zero => omega
      | succ f =>
        have hE2 := hid (show clsR n f (2 * c) = R by have := hE.out; rw [clsR, if_pos hlt] at this; exact this)
        have hc2 : 2 * c * 2 ^ f = 16384 := by rw [← hc, Nat.pow_succ]; ac_rfl
        have hc3 : 0 < c := by
          rcases Nat.eq_zero_or_pos c with h | h
          · rw [h] at hc; simp at hc
          · exact h
        have HC := hid hc2
        have hc4 : 2 * c ≤ 16384 := by
          have : 0 < 2 ^ f := Nat.two_pow_pos f
          have := Nat.le_mul_of_pos_right (2 * c) this
          omega
        clear hlt hc hE hc2
        go_wp2_with ((go_at_call 65); (refine (clsF_any c hc1).mono ?_); rintro e w' ⟨rfl, rfl⟩)
        go_roundw
        case rel => exact ⟨f, 2 * c, by go_num, HC.out, hE2, fr⟩
        case measure => simp [intOf]; omega
    · have hd : decide ((c : Int) < (n : Int) + 4) = false := by simp; omega
      have hd' : decide (c < n + 4) = false := by simp; omega
      have HRc := hid (show c = R by rw [← hE.out, clsR_stop _ _ _ (by omega)])
      clear hlt hc hE
      go_wp2_with fail
      go_ret
      rw [HRc.out]
      exact ⟨rfl, fr⟩
theorem class_any {w : World} (n : Int) (hl : -9223372036854775808 ≤ n) (hh : n ≤ 9223372036854775807) : Calls Tryz.prog 46 #[.int .i64 n] w fun e w' => e = .returned (.int .i64 (clsI n)) ∧ Fr [] w w' := by
  by_cases h : 0 ≤ n ∧ n ≤ 8192
  · obtain ⟨m, rfl⟩ := Int.eq_ofNat_of_zero_le h.1
    rw [clsI_nat m (by omega)]
    exact class_in m (by omega)
  · have HR := hid (show clsI n = 0 by simp [clsI, h])
    rw [HR.out]
    by_cases h0 : n < 0
    · have hd : decide (n < 0) = true := by simp; omega
      clear h h0
      go_enter Tryz.func46, Tryz.ntmps46
      go_wp2_with fail
      go_ret
      exact ⟨rfl, Fr.refl _ _⟩
    · have hd : decide (n < 0) = false := by simp; omega
      have hd2 : decide (8192 < n) = true := by simp; omega
      clear h h0
      go_enter Tryz.func46, Tryz.ntmps46
      go_wp2_with fail
      go_ret
      exact ⟨rfl, Fr.refl _ _⟩
set_option maxRecDepth 20000 in
theorem rclass_in {w : World} (n : Nat) (h : n ≤ 8192) : Calls Tryz.prog 51 #[.int .i64 (n : Int)] w fun e w' => e = .returned (.int .i64 (clsN n : Int)) ∧ Fr [] w w' := by
  have h1 : (n : Int) ≤ 8192 := by omega
  have h2 : decide ((n : Int) < 0) = false := by simp
  have h3 : decide (8192 < (n : Int)) = false := by simp; omega
  obtain ⟨R, hR⟩ : ∃ R, clsN n = R := ⟨_, rfl⟩
  have HR := hid (show clsR n 8 64 = R from hR)
  rw [hR]
  clear hR
  go_enter Tryz.func51, Tryz.ntmps51
  go_wp2_with fail
  go_loopw [3] (fun cv wr => ∃ (f c : Nat), cv = .int .i64 c ∧ c * 2 ^ f = 16384 ∧ Hid (clsR n f c = R) ∧ Fr [] w wr) (fun cv _ => 16384 - (intOf cv).toNat)
  case atStart => exact ⟨8, 64, rfl, by decide, HR, Fr.refl _ _⟩
  case round =>
    obtain ⟨f, c, rfl, hc, hE, fr⟩ := hrel
    clear HR
    have hc1 : c ≤ 16384 := by
      have : 0 < 2 ^ f := Nat.two_pow_pos f
      have := Nat.le_mul_of_pos_right c this
      omega
    by_cases hlt : c < n + 4
    · have hd : decide ((c : Int) < (n : Int) + 4) = true := by simp; omega
      have hd' : decide (c < n + 4) = true := by simp; omega
      cases f with
      | zero => omega
      | succ f =>
        have hE2 := hid (show clsR n f (2 * c) = R by have := hE.out; rw [clsR, if_pos hlt] at this; exact this)
        have hc2 : 2 * c * 2 ^ f = 16384 := by rw [← hc, Nat.pow_succ]; ac_rfl
        have hc3 : 0 < c := by
          rcases Nat.eq_zero_or_pos c with h | h
          · rw [h] at hc; simp at hc
          · exact h
        have HC := hid hc2
        have hc4 : 2 * c ≤ 16384 := by
          have : 0 < 2 ^ f := Nat.two_pow_pos f
          have := Nat.le_mul_of_pos_right (2 * c) this
          omega
        clear hlt hc hE hc2
        go_wp2_with ((go_at_call 65); (refine (clsF_any c hc1).mono ?_); rintro e w' ⟨rfl, rfl⟩)
        go_roundw
        case rel => exact ⟨f, 2 * c, by go_num, HC.out, hE2, fr⟩
        case measure => simp [intOf]; omega
    · have hd : decide ((c : Int) < (n : Int) + 4) = false := by simp; omega
      have hd' : decide (c < n + 4) = false := by simp; omega
      have HRc := hid (show c = R by rw [← hE.out, clsR_stop _ _ _ (by omega)])
      clear hlt hc hE
      go_wp2_with fail
      go_ret
      rw [HRc.out]
      exact ⟨rfl, fr⟩
theorem rclass_any {w : World} (n : Int) (hl : -9223372036854775808 ≤ n) (hh : n ≤ 9223372036854775807) : Calls Tryz.prog 51 #[.int .i64 n] w fun e w' => e = .returned (.int .i64 (clsI n)) ∧ Fr [] w w' := by
  by_cases h : 0 ≤ n ∧ n ≤ 8192
  · obtain ⟨m, rfl⟩ := Int.eq_ofNat_of_zero_le h.1
    rw [clsI_nat m (by omega)]
    exact rclass_in m (by omega)
  · have HR := hid (show clsI n = 0 by simp [clsI, h])
    rw [HR.out]
    by_cases h0 : n < 0
    · have hd : decide (n < 0) = true := by simp; omega
      clear h h0
      go_enter Tryz.func51, Tryz.ntmps51
      go_wp2_with fail
      go_ret
      exact ⟨rfl, Fr.refl _ _⟩
    · have hd : decide (n < 0) = false := by simp; omega
      have hd2 : decide (8192 < n) = true := by simp; omega
      clear h h0
      go_enter Tryz.func51, Tryz.ntmps51
      go_wp2_with fail
      go_ret
      exact ⟨rfl, Fr.refl _ _⟩

theorem cv32_64 (w : World) (a : UInt32) : (convert 75 22 (W32 a)).run Tryz.prog w = .ok (W64 a.toUInt64) w := conv_u32_u64 w _ _ a Tryz.underlying75 Tryz.underlying22 rfl
theorem cv64_b (w : World) (a : UInt64) : (convert 22 5 (W64 a)).run Tryz.prog w = .ok (bt a.toUInt8) w := conv_u64_u8 w _ _ a Tryz.underlying22 Tryz.underlying5 rfl
attribute [local go_sem] shr_u64 cv64_b cv32_64

set_option maxRecDepth 20000 in
theorem num_any {w : World} (x : UInt64) (n : Nat) (hn : n ≤ 8) : Calls Tryz.prog 68 #[W64 x, .int .i64 (n : Int)] w fun e w' => e = .returned (.string ⟨(leN x.toNat n).toArray⟩) ∧ Fr [] w w' := by
  obtain ⟨i5, hi5, hz5, hs5, hb5⟩ := infB8
  have Hi := hid hi5
  have Hz := hid hz5
  have Hs := hid hs5
  have Hb := hid hb5
  clear hi5 hz5 hs5 hb5
  obtain ⟨L, hL⟩ : ∃ L, leN x.toNat n = L := ⟨_, rfl⟩
  have HLl := hid (show L.length = n by rw [← hL, leN_len])
  have HLg := hid (show ∀ i, i < n → L[i]? = some (UInt8.ofNat (x.toNat / 2 ^ (8 * i))) from fun i hi => by rw [← hL]; exact leN_get _ _ _ hi)
  rw [hL]
  clear hL
  go_enter Tryz.func68, Tryz.ntmps68
  go_wp2_with (refine wpList_make_blk rfl _ _ _ rfl n n .i64 .i64 rfl rfl 5 _ _ 1 Tryz.underlying67 Hi.out Hz.out Hs.out Hb.out rfl (Nat.le_refl _) (by omega) (by omega) ?_; intro w1 f1 hlt1 hb1; simp only [World.size_alloc, World.size_drew, Act.put, List.setIfInBounds_toArray, List.set_cons_succ, List.set_cons_zero])
  obtain ⟨N, hN⟩ : ∃ N, w.heap.size = N := ⟨_, rfl⟩
  rw [hN] at hb1 hlt1 ⊢
  have HN := hid hN
  have q1 : Blk w1 N (bv (upL L 0)) := by rw [upL_zero, HLl.out, bv_replicate]; exact hb1
  clear hb1 hN
  go_loopw [6] (fun iv wr => ∃ i : Nat, i ≤ n ∧ iv = .int .i64 i ∧ Blk wr N (bv (upL L i)) ∧ Fr [] w wr) (fun iv _ => n - (intOf iv).toNat)
  case atStart => exact ⟨0, by omega, rfl, q1, f1⟩
  case round =>
    obtain ⟨i, hi, rfl, b1, f⟩ := hrel
    clear q1 f1
    by_cases hli : i < n
    · have hd : decide (i < n) = true := by simp; omega
      have hm : 8 * (i : Int) ≤ 56 := by omega
      have hm0 : (0 : Int) ≤ 8 * (i : Int) := by omega
      have hsr : ∀ (t : TypeId) (a : UInt64), binOp .shr t (W64 a) (.int .u64 (8 * (i : Int))) = pure (W64 (shr64 a (8 * i))) := fun t a => by
        have := shr_u64 t a .u64 (8 * (i : Int)) hm0
        rw [show (8 * (i : Int)).toNat = 8 * i by omega] at this
        exact this
      obtain ⟨X, hX⟩ : ∃ X, UInt8.ofNat (x.toNat / 2 ^ (8 * i)) = X := ⟨_, rfl⟩
      have Hset := hid (show (upL L i).set i X = upL L (i + 1) from upL_set _ _ _ (by rw [HLg.out i hli, hX]))
      have HX := hid hX
      have Hbl := hid (show i < (bv (upL L i)).length by rw [bv_length, upL_len _ _ (by rw [HLl.out]; exact hi), HLl.out]; exact hli)
      clear hX
      go_wp2_with (refine wpList_put rfl _ _ _ rfl rfl (bt X) (by rw [← HX.out]; first | exact congrArg bt (shr64_b _ _) | exact congrArg bt ((shr64_b _ _).trans (by rw [UInt32.toNat_toUInt64]))) rfl b1 Hbl.out (by kernel_rfl) ?_; intro w2 f2 b2 hs2; simp only [World.size_alloc, World.size_drew, Act.put, List.setIfInBounds_toArray, List.set_cons_succ, List.set_cons_zero])
      rw [← bv_set, Hset.out] at b2
      go_roundw
      case rel => exact ⟨i + 1, by omega, by go_num, b2, f.trans f2 (by simp; have := HN.out; omega)⟩
      case measure => simp [intOf]; omega
    · have hd : decide (i < n) = false := by simp; omega
      have ei : i = L.length := by rw [HLl.out]; omega
      rw [ei, upL_all] at b1
      clear ei hi hli
      go_wp2_with (refine wpList_string_of_bytes rfl 67 9 5 _ rfl n n rfl b1 L HLl.out (by rw [List.drop_zero, ← bv_length, List.take_length]) Tryz.underlying67 Tryz.underlying5 Tryz.underlying9 ?_; simp only [World.size_alloc, World.size_drew, Act.put, List.setIfInBounds_toArray, List.set_cons_succ, List.set_cons_zero])
      go_ret
      exact ⟨rfl, f⟩
set_option maxRecDepth 20000 in
theorem put32_any {w : World} (x : UInt32) (n : Nat) (hn : n ≤ 8) : Calls Tryz.prog 49 #[W32 x, .int .i64 (n : Int)] w fun e w' => e = .returned (.string ⟨(leN x.toNat n).toArray⟩) ∧ Fr [] w w' := by
  obtain ⟨i5, hi5, hz5, hs5, hb5⟩ := infB8
  have Hi := hid hi5
  have Hz := hid hz5
  have Hs := hid hs5
  have Hb := hid hb5
  clear hi5 hz5 hs5 hb5
  obtain ⟨L, hL⟩ : ∃ L, leN x.toNat n = L := ⟨_, rfl⟩
  have HLl := hid (show L.length = n by rw [← hL, leN_len])
  have HLg := hid (show ∀ i, i < n → L[i]? = some (UInt8.ofNat (x.toNat / 2 ^ (8 * i))) from fun i hi => by rw [← hL]; exact leN_get _ _ _ hi)
  rw [hL]
  clear hL
  go_enter Tryz.func49, Tryz.ntmps49
  go_wp2_with (refine wpList_make_blk rfl _ _ _ rfl n n .i64 .i64 rfl rfl 5 _ _ 1 Tryz.underlying67 Hi.out Hz.out Hs.out Hb.out rfl (Nat.le_refl _) (by omega) (by omega) ?_; intro w1 f1 hlt1 hb1; simp only [World.size_alloc, World.size_drew, Act.put, List.setIfInBounds_toArray, List.set_cons_succ, List.set_cons_zero])
  obtain ⟨N, hN⟩ : ∃ N, w.heap.size = N := ⟨_, rfl⟩
  rw [hN] at hb1 hlt1 ⊢
  have HN := hid hN
  have q1 : Blk w1 N (bv (upL L 0)) := by rw [upL_zero, HLl.out, bv_replicate]; exact hb1
  clear hb1 hN
  go_loopw [11] (fun iv wr => ∃ i : Nat, i ≤ n ∧ iv = .int .i64 i ∧ Blk wr N (bv (upL L i)) ∧ Fr [] w wr) (fun iv _ => n - (intOf iv).toNat)
  case atStart => exact ⟨0, by omega, rfl, q1, f1⟩
  case round =>
    obtain ⟨i, hi, rfl, b1, f⟩ := hrel
    clear q1 f1
    by_cases hli : i < n
    · have hd : decide (i < n) = true := by simp; omega
      have hm : 8 * (i : Int) ≤ 56 := by omega
      have hm0 : (0 : Int) ≤ 8 * (i : Int) := by omega
      have hsr : ∀ (t : TypeId) (a : UInt64), binOp .shr t (W64 a) (.int .u64 (8 * (i : Int))) = pure (W64 (shr64 a (8 * i))) := fun t a => by
        have := shr_u64 t a .u64 (8 * (i : Int)) hm0
        rw [show (8 * (i : Int)).toNat = 8 * i by omega] at this
        exact this
      obtain ⟨X, hX⟩ : ∃ X, UInt8.ofNat (x.toNat / 2 ^ (8 * i)) = X := ⟨_, rfl⟩
      have Hset := hid (show (upL L i).set i X = upL L (i + 1) from upL_set _ _ _ (by rw [HLg.out i hli, hX]))
      have HX := hid hX
      have Hbl := hid (show i < (bv (upL L i)).length by rw [bv_length, upL_len _ _ (by rw [HLl.out]; exact hi), HLl.out]; exact hli)
      clear hX
      go_wp2_with (refine wpList_put rfl _ _ _ rfl rfl (bt X) (by rw [← HX.out]; first | exact congrArg bt (shr64_b _ _) | exact congrArg bt ((shr64_b _ _).trans (by rw [UInt32.toNat_toUInt64]))) rfl b1 Hbl.out (by kernel_rfl) ?_; intro w2 f2 b2 hs2; simp only [World.size_alloc, World.size_drew, Act.put, List.setIfInBounds_toArray, List.set_cons_succ, List.set_cons_zero])
      rw [← bv_set, Hset.out] at b2
      go_roundw
      case rel => exact ⟨i + 1, by omega, by go_num, b2, f.trans f2 (by simp; have := HN.out; omega)⟩
      case measure => simp [intOf]; omega
    · have hd : decide (i < n) = false := by simp; omega
      have ei : i = L.length := by rw [HLl.out]; omega
      rw [ei, upL_all] at b1
      clear ei hi hli
      go_wp2_with (refine wpList_string_of_bytes rfl 67 9 5 _ rfl n n rfl b1 L HLl.out (by rw [List.drop_zero, ← bv_length, List.take_length]) Tryz.underlying67 Tryz.underlying5 Tryz.underlying9 ?_; simp only [World.size_alloc, World.size_drew, Act.put, List.setIfInBounds_toArray, List.set_cons_succ, List.set_cons_zero])
      go_ret
      exact ⟨rfl, f⟩
set_option maxRecDepth 20000 in
theorem u32_any {w : World} (x : UInt32) : Calls Tryz.prog 29 #[W32 x] w fun e w' => e = .returned (.string ⟨(leN x.toNat 4).toArray⟩) ∧ Fr [] w w' := by
  go_enter Tryz.func29, Tryz.ntmps29
  go_wp2_with fail
  refine (put32_any x 4 (by decide)).mono ?_
  rintro e w1 ⟨rfl, f1⟩
  go_wp2_with fail
  go_ret
  exact ⟨rfl, f1⟩
end Go.Proofs.YtneoagelcjfanaaGreatDoor.rcd
