/- Layer 21, record: a number read, a padded text read. -/
import Derived.Test.YtneoagelcjfanaaGreatDoorRecC
import Derived.Test.YtneoagelcjfanaaGreatDoorGSeal
namespace Go.Xr
open Go
set_option linter.unusedVariables false
theorem ext_take (s : ByteArray) (n : Nat) : (s.extract 0 n).data.toList = s.data.toList.take n := by
  rw [ByteArray.data_extract, Array.toList_extract, List.extract_eq_take_drop, List.drop_zero, Nat.sub_zero]
/-- The length that a padded text tells. -/
def tellN (s : ByteArray) : Nat := leV (s.data.toList.take 4)
theorem tellN_lt (s : ByteArray) : tellN s < 4294967296 := leV_le4 _ (by rw [List.length_take]; omega)
/-- From i on there is but 0. -/
def zeroB (s : ByteArray) (i : Nat) : Bool := (s.data.toList.drop i).all (· == 0)
theorem zeroB_true (s : ByteArray) (q : Nat) (h : ∀ j, q + j < s.size → g8 s.data.toList (q + j) = 0) : zeroB s q = true := by
  unfold zeroB
  rw [List.all_eq_true]
  intro c hc
  obtain ⟨j, hj, rfl⟩ := List.getElem_of_mem hc
  rw [List.length_drop, Array.length_toList] at hj
  have hj2 : q + j < s.size := by show q + j < s.data.size; omega
  have := h j hj2
  rw [List.getElem_drop]
  have h2 := g8_eq s.data.toList (q + j) (by rw [Array.length_toList]; exact hj2)
  rw [List.getElem?_eq_getElem (by rw [Array.length_toList]; exact hj2), this] at h2
  rw [Option.some.inj h2]
  rfl
theorem zeroB_false (s : ByteArray) (q j : Nat) (hj : q + j < s.size) (h : g8 s.data.toList (q + j) ≠ 0) : zeroB s q = false := by
  unfold zeroB
  rw [List.all_eq_false]
  refine ⟨g8 s.data.toList (q + j), ?_, by simpa using h⟩
  have h2 := g8_eq (s.data.toList.drop q) j (by rw [List.length_drop, Array.length_toList]; show j < s.data.size - q; have : q + j < s.data.size := hj; omega)
  have e : g8 (s.data.toList.drop q) j = g8 s.data.toList (q + j) := by unfold g8; rw [List.getD_eq_getElem?_getD, List.getD_eq_getElem?_getD, List.getElem?_drop]
  rw [e] at h2
  exact List.mem_of_getElem? h2
/-- What a padded text holds. -/
def unpOk (s : ByteArray) : Bool := decide (4 ≤ s.size) && (decide (tellN s ≤ s.size - 4) && zeroB s (4 + tellN s))
def unpT (s : ByteArray) : ByteArray := if unpOk s then s.extract 4 (4 + tellN s) else ⟨#[]⟩
def unpE (s : ByteArray) : Int := if s.size < 4 then 50 else if unpOk s then 0 else 51
end Go.Xr
namespace Go.Proofs.YtneoagelcjfanaaGreatDoor.rcd
open Go Go.Xr Go.RowKit
set_option linter.unusedVariables false
set_option linter.unusedSimpArgs false
theorem cv8_64r (w : World) (a : UInt8) : (convert 5 22 (bt a)).run Tryz.prog w = .ok (W64 a.toUInt64) w := conv_u8_u64 w _ _ a Tryz.underlying5 Tryz.underlying22 rfl
theorem cv64_32 (w : World) (a : UInt64) : (convert 22 75 (W64 a)).run Tryz.prog w = .ok (W32 a.toUInt32) w := conv_u64_u32 w _ _ a Tryz.underlying22 Tryz.underlying75 rfl
attribute [local go_sem] or_u64 shl_u64 cv8_64r cv64_32

set_option maxRecDepth 20000 in
set_option maxHeartbeats 1000000 in
theorem get32_any {w : World} {p : Nat} (s : ByteArray) (h : Blk w p (rdrL s 0 0)) (hs : 4 ≤ s.size) (hm : s.size ≤ 140737488355328) : Calls Tryz.prog 73 #[.pointer (some ⟨p, 0, none⟩), .int .i64 4] w fun e w' => e = .returned (W32 (UInt32.ofNat (tellN s))) ∧ Blk w' p (rdrL s 4 0) ∧ Fr [p] w w' := by
  have Hb := hid (bytes_any s 4 h (by omega) hm)
  obtain ⟨D, hD⟩ : ∃ D, s.extract 0 (0 + 4) = D := ⟨_, rfl⟩
  obtain ⟨L, hL⟩ : ∃ L, s.data.toList.take 4 = L := ⟨_, rfl⟩
  have HLl := hid (show L.length = 4 by rw [← hL, List.length_take, Array.length_toList]; exact Nat.min_eq_left hs)
  have HDs := hid (show D.size = 4 by rw [← hD]; simp; omega)
  have HDl := hid (show D.data.toList = L by rw [← hD, ext_take, hL])
  have Hmx := hid (show D.size ≤ maxLen by rw [HDs.out]; decide)
  have Hfin := hid (show UInt64.ofNat (leV (L.take 4)) = UInt64.ofNat (tellN s) by rw [List.take_of_length_le (by rw [HLl.out]; exact Nat.le_refl _), ← hL]; rfl)
  rw [hD] at Hb
  have hpw := h.lt
  clear hD hL h
  go_enter Tryz.func73, Tryz.ntmps73
  go_wp2_with fail
  refine Hb.out.mono ?_
  rintro e w1 ⟨rfl, b1, f1⟩
  have hp1 : p < w1.heap.size := Nat.lt_of_lt_of_le hpw f1.size
  go_wp2_with (refine wpList_bytes_own rfl 9 67 5 _ rfl D rfl Hmx.out Tryz.underlying9 Tryz.underlying67 Tryz.underlying5 ?_; intro w2 c2 f2 hlt2 ho2; rw [HDl.out] at ho2; simp only [World.size_alloc, World.size_drew, Act.put, List.setIfInBounds_toArray, List.set_cons_succ, List.set_cons_zero])
  obtain ⟨N, hN⟩ : ∃ N, w1.heap.size = N := ⟨_, rfl⟩
  rw [hN] at ho2 hlt2 hp1 ⊢
  obtain ⟨cs, hcs1, hcs2, hcs3, _⟩ := ho2.blkOf
  rw [HDs.out] at hcs3 hcs2
  have b2 := f2.blk b1 (by simp)
  have g2 : Fr [p] w w2 := f1.trans' (f2.mono (by simp))
  have hcell : Hid (∀ i, i < 4 → w2.cell? ⟨N, i, none⟩ = some (bt (g8 L i))) := hid fun i hi => by
    rw [hcs1.cell]
    have : (cs.take 4)[i]? = (bv L)[i]? := by rw [hcs3]
    rw [List.getElem?_take, if_pos hi, bv_getElem?, g8_eq L i (by rw [HLl.out]; exact hi)] at this
    exact this
  have hDi : ((D.size : Nat) : Int) = 4 := by rw [HDs.out]; rfl
  clear ho2 hcs1 hcs2 hcs3 f1 f2 b1 hlt2
  go_loopw [5, 13] (fun xv iv wr => ∃ i : Nat, i ≤ 4 ∧ iv = .int .i64 i ∧ xv = W64 (UInt64.ofNat (leV (L.take i))) ∧ wr = w2) (fun _ iv _ => 4 - (intOf iv).toNat)
  case atStart => exact ⟨0, by omega, rfl, rfl, rfl⟩
  case round =>
    obtain ⟨i, hi, rfl, rfl, rfl⟩ := hrel
    by_cases hli : i < 4
    · have hd : decide ((i : Int) < 4) = true := by simp; omega
      have k1 := hcell.out i hli
      obtain ⟨X, hX⟩ : ∃ X, g8 L i = X := ⟨_, rfl⟩
      rw [hX] at k1
      obtain ⟨V, hV⟩ : ∃ V, UInt64.ofNat (leV (L.take i)) = V := ⟨_, rfl⟩
      have hli2 : i < L.length := by rw [HLl.out]; exact hli
      have hge : L[i] = X := by
        have := g8_eq L i hli2
        rw [List.getElem?_eq_getElem hli2, hX] at this
        exact Option.some.inj this
      have Hst := hid (get_step L i hli2 hli)
      rw [hV, hge] at Hst
      have hm0 : (0 : Int) ≤ 8 * (i : Int) := by omega
      have hsl : ∀ (t : TypeId) (a : UInt64), binOp .shl t (W64 a) (.int .u64 (8 * (i : Int))) = pure (W64 (shl64 a (8 * i))) := fun t a => by
        have := shl_u64 t a .u64 (8 * (i : Int)) hm0
        rw [show (8 * (i : Int)).toNat = 8 * i by omega] at this
        exact this
      have hi4 : (i : Int) ≤ 4 := by omega
      have hiD : i < D.size := by rw [HDs.out]; exact hli
      rw [hV]
      clear hX hV hge
      go_wp2_with fail
      go_roundw
      case rel => exact ⟨i + 1, by omega, by go_num, by rw [Hst.out], by first | rfl | trivial⟩
      case measure => simp [intOf]; omega
    · have hd : decide ((i : Int) < 4) = false := by simp; omega
      obtain rfl : i = 4 := by omega
      rw [Hfin.out]
      clear hi hli
      go_wp2_with fail
      go_ret
      exact ⟨rfl, b2, g2⟩

set_option maxRecDepth 20000 in
theorem get32_short {w : World} {p : Nat} (s : ByteArray) (h : Blk w p (rdrL s 0 0)) (hs : s.size < 4) : Calls Tryz.prog 73 #[.pointer (some ⟨p, 0, none⟩), .int .i64 4] w fun e w' => e = .returned (.int .u32 0) ∧ Blk w' p (rdrL s 0 50) ∧ Fr [p] w w' := by
  have Hb := hid (bytes_short s 4 h (by omega) (by omega) (by omega) (by decide))
  have Hmx := hid (show (⟨#[]⟩ : ByteArray).size ≤ maxLen by decide)
  have hpw := h.lt
  clear h
  go_enter Tryz.func73, Tryz.ntmps73
  go_wp2_with fail
  refine Hb.out.mono ?_
  rintro e w1 ⟨rfl, b1, f1⟩
  go_wp2_with (refine wpList_bytes_own rfl 9 67 5 _ rfl ⟨#[]⟩ rfl Hmx.out Tryz.underlying9 Tryz.underlying67 Tryz.underlying5 ?_; intro w2 c2 f2 hlt2 ho2; simp only [World.size_alloc, World.size_drew, Act.put, List.setIfInBounds_toArray, List.set_cons_succ, List.set_cons_zero])
  have b2 := f2.blk b1 (by simp)
  have g2 : Fr [p] w w2 := f1.trans' (f2.mono (by simp))
  have hz : ((ByteArray.mk #[]).size : Int) = 0 := rfl
  go_loopw [5, 13] (fun xv iv wr => iv = .int .i64 0 ∧ xv = .int .u64 0 ∧ wr = w2) (fun _ iv _ => 0)
  case atStart => exact ⟨rfl, rfl, rfl⟩
  case round =>
    obtain ⟨rfl, rfl, rfl⟩ := hrel
    go_wp2_with fail
    go_ret
    exact ⟨rfl, b2, g2⟩
theorem ru32_any {w : World} {p : Nat} (s : ByteArray) (h : Blk w p (rdrL s 0 0)) (hs : 4 ≤ s.size) (hm : s.size ≤ 140737488355328) : Calls Tryz.prog 55 #[.pointer (some ⟨p, 0, none⟩)] w fun e w' => e = .returned (W32 (UInt32.ofNat (tellN s))) ∧ Blk w' p (rdrL s 4 0) ∧ Fr [p] w w' := by
  have Hb := hid (get32_any s h hs hm)
  go_enter Tryz.func55, Tryz.ntmps55
  go_wp2_with fail
  refine Hb.out.mono ?_
  rintro e w1 ⟨rfl, b1, f1⟩
  go_wp2_with fail
  go_ret
  exact ⟨rfl, b1, f1⟩
theorem ru32_short {w : World} {p : Nat} (s : ByteArray) (h : Blk w p (rdrL s 0 0)) (hs : s.size < 4) : Calls Tryz.prog 55 #[.pointer (some ⟨p, 0, none⟩)] w fun e w' => e = .returned (.int .u32 0) ∧ Blk w' p (rdrL s 0 50) ∧ Fr [p] w w' := by
  have Hb := hid (get32_short s h hs)
  go_enter Tryz.func55, Tryz.ntmps55
  go_wp2_with fail
  refine Hb.out.mono ?_
  rintro e w1 ⟨rfl, b1, f1⟩
  go_wp2_with fail
  go_ret
  exact ⟨rfl, b1, f1⟩
end Go.Proofs.YtneoagelcjfanaaGreatDoor.rcd
