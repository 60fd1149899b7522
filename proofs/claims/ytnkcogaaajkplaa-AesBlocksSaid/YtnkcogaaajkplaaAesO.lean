/- Layer 3, the document's aes: a block turned back. -/
import Derived.Test.YtnkcogaaajkplaaAesN
namespace Go.Proofs.Ytnkcogaaajkplaa
open Go Go.Xr Go.RowKit
set_option linter.unusedVariables false
set_option linter.unusedSimpArgs false
attribute [local go_sem] xor_u8 xor_u8_c at_bt

set_option maxRecDepth 20000 in
set_option maxHeartbeats 1000000 in
theorem rback_any {w : World} {v u : Value} {T : List UInt8} (s : ByteArray) (hv : Ss w v (keysOf T)) (hu : Sb w u (unsOf T)) (hT : T.length = 688) (hs : s.size = 16) :
    Calls Try.prog 18 #[v, u, .string s] w fun e w' => e = .returned (.string ⟨(backS T s.data.toList).toArray⟩) ∧ Fr [] w w' := by
  obtain ⟨i5, hi5, hz5, hs5, hb5⟩ := inf5
  have Hi := hid hi5
  have Hz := hid hz5
  have Hs := hid hs5
  have Hb := hid hb5
  obtain ⟨bk, ck, rfl, hk1, hk2, hkl, hkey⟩ := hv
  obtain ⟨bs, cs, rfl, hc3, hc4, hsl, hsub⟩ := hu.cells
  rw [keysOf_len] at hkey hk1
  rw [unsOf_len T hT] at hsub hc3
  rw [keysOf_len, unsOf_len T hT]
  unfold maxLen at hk2 hc4
  have Hk : Hid (∀ j, j < 11 → w.cell? ⟨bk, j, none⟩ = some (.string (keyS T j))) := hid fun j hj => by rw [hkey j hj, keysOf_get T j hj]
  have Hd : Hid (∀ j, j < 256 → w.cell? ⟨bs, j, none⟩ = some (bt (g8 T (432 + j)))) := hid fun j hj => by rw [hsub j hj, unsOf_get T j hj]
  have HT := hid hT
  have Hsz := hid hs
  obtain ⟨S, hS⟩ : ∃ S, s.data.toList = S := ⟨_, rfl⟩
  have HS := hid hS
  have HSl := hid (show S.length = 16 by rw [← hS, Array.length_toList]; exact hs)
  have Hmx := hid (show s.size ≤ maxLen by rw [hs]; decide)
  have Hrl := hid fun r (hr : r ≤ 11) => rk_len T hT r hr
  rw [hS]
  clear hi5 hz5 hs5 hb5 hkey hsub hT hs hu hS
  go_enter Try.func18, Try.ntmps18
  go_wp2_with (refine wpList_bytes_own rfl 9 32 5 _ rfl s rfl Hmx.out Try.underlying9 Try.underlying32 Try.underlying5 ?_; intro w1 c1 f1 hlt1 ho1; rw [HS.out] at ho1; simp only [World.size_alloc, World.size_drew, Act.put, List.setIfInBounds_toArray, List.set_cons_succ, List.set_cons_zero])
  have q0 : Sb w1 (.slice (some ⟨w.heap.size, 0, none⟩) s.size c1) (bkR T S (10 - 10)) := Sb.of_own ho1
  have Hk2 := hid (cells_keep Hk.out f1 hkl (by simp))
  have Hd2 := hid (cells_keep Hd.out f1 hsl (by simp))
  clear ho1 hlt1 hc3
  go_loopw [7, 8] (fun bv0 rv wr => ∃ r : Nat, r ≤ 10 ∧ rv = .int .i64 r ∧ Sb wr bv0 (bkR T S (10 - r)) ∧ Hid (∀ j, j < 11 → wr.cell? ⟨bk, j, none⟩ = some (.string (keyS T j))) ∧ Hid (∀ j, j < 256 → wr.cell? ⟨bs, j, none⟩ = some (bt (g8 T (432 + j)))) ∧ Fr [] w wr) (fun _ rv _ => (intOf rv).toNat)
  case atStart => exact ⟨10, by decide, rfl, q0, Hk2, Hd2, f1⟩
  case round =>
    obtain ⟨r, hr, rfl, b1, hk, hd, f⟩ := hrel
    clear q0 Hk2 Hd2 f1
    have hCl : (bkR T S (10 - r)).length = 16 := bkR_len _ _ HSl.out _
    by_cases hlt : 1 ≤ r
    · have hd1 : decide ((r : Int) ≥ 1) = true := by simp; omega
      have hkr := hk.out r (by omega)
      obtain ⟨C, hC⟩ : ∃ C, bkR T S (10 - r) = C := ⟨_, rfl⟩
      rw [hC] at b1 hCl
      have HC := hid hC
      have HCl := hid hCl
      clear hC hCl
      go_wp2_with fail
      refine (rwith_any (keyS T r) b1 HCl.out (by show (rk T r).toArray.size = 16; rw [List.size_toArray]; exact Hrl.out r (by omega))).mono ?_
      rintro e w2 ⟨N2, rfl, hN2, hge2, f2⟩
      rw [keyS_list] at hN2
      obtain ⟨X, hX⟩ : ∃ X, xorL C (rk T r) = X := ⟨_, rfl⟩
      have HXl := hid (show X.length = 16 by rw [← hX]; exact xorL_len _ _)
      have HE : bkR T S (10 - (r - 1)) = ush T (if r = 10 then X else mixL F2 X) := by
        rw [show 10 - (r - 1) = (10 - r) + 1 by omega, bkR, HC.out, show 10 - (10 - r) = r by omega, hX]
        by_cases h : r = 10
        · rw [if_pos (by omega), if_pos h]
        · rw [if_neg (by omega), if_neg h]
      rw [hX] at hN2
      clear hkr b1 hd1 hX hge2
      by_cases hr10 : r < 10
      case' pos =>
        have hd10 : decide ((r : Int) < 10) = true := by simp; omega
        rw [if_neg (by omega)] at HE
        have HE2 := hid HE
        clear HE
        go_wp2_with fail
        have hbF : Blk (w2.alloc (.cells #[.int .u8 14, .int .u8 11, .int .u8 13, .int .u8 9] 5)) w2.heap.size (bv F2) := Blk.alloc w2 (bv F2) _
        have fF := (Fr.refl [] w2).alloc (.cells #[.int .u8 14, .int .u8 11, .int .u8 13, .int .u8 9] 5)
        generalize w2.alloc (.cells #[.int .u8 14, .int .u8 11, .int .u8 13, .int .u8 9] 5) = w5 at hbF fF ⊢
        refine (rmix_any (Sb.of' (fF.blk hN2 (by simp)) HXl.out (by decide) (by decide)) HXl.out (Sb.of' (l := F2) hbF rfl (by decide) (by decide)) rfl).mono ?_
        rintro e w6 ⟨Nm, rfl, hNm, hge, f6⟩
        have gm := f2.trans' (fF.trans' f6)
        have HD := hid (mixL_len F2 X)
        obtain ⟨D, hD⟩ : ∃ D, mixL F2 X = D := ⟨_, rfl⟩
        rw [hD] at hNm HE2 HD
        clear hD hbF fF f6 hge f2 hN2
        clear hr10
      case' neg =>
        have hd10 : decide ((r : Int) < 10) = false := by simp; omega
        rw [if_pos (by omega)] at HE
        have HE2 := hid HE
        clear HE
        have gm := f2
        have HD := HXl
        have hNm := hN2
        clear hN2 f2
        clear hr10
        obtain ⟨Nm, rfl⟩ : ∃ Nm, Nm = N2 := ⟨_, rfl⟩
        obtain ⟨D, rfl⟩ : ∃ D, D = X := ⟨_, rfl⟩
        obtain ⟨w6, rfl⟩ : ∃ w6, w6 = w2 := ⟨_, rfl⟩
      all_goals
        have hkm := hid (cells_keep hk.out gm (f.lt hkl) (by simp))
        have hdm := hid (cells_keep hd.out gm (f.lt hsl) (by simp))
        have g := f.trans' gm
        clear hk hd f gm
        go_wp2_with (refine wpList_make_blk rfl _ _ _ rfl 16 16 .i64 .i64 rfl rfl 5 _ _ 1 Try.underlying32 Hi.out Hz.out Hs.out Hb.out rfl (by decide) (by decide) (by decide) ?_; intro w9 f9 hlt9 hb9; simp only [World.size_alloc, World.size_drew, Act.put, List.setIfInBounds_toArray, List.set_cons_succ, List.set_cons_zero])
        clear hd10
        obtain ⟨Nt, hNt⟩ : ∃ Nt, w6.heap.size = Nt := ⟨_, rfl⟩
        have hmt : Nm < Nt := by have := hNm.lt; omega
        have hwt : w.heap.size ≤ Nt := by have := g.size; omega
        rw [hNt] at hb9 ⊢
        have e1 : Blk w9 Nt (bv (ushI T D (List.replicate 16 0) 0)) := hb9
        have e2 := f9.blk hNm (by simp)
        have e3 := hid (cells_keep hkm.out f9 (g.lt hkl) (by simp))
        have e4 := hid (cells_keep hdm.out f9 (g.lt hsl) (by simp))
        have g9 := g.trans' f9
        clear hb9 hNm hkm hdm f9 g hlt9 hNt
        go_loopw [10] (fun iv wr => ∃ i : Nat, i ≤ 16 ∧ iv = .int .i64 i ∧ Blk wr Nt (bv (ushI T D (List.replicate 16 0) i)) ∧ Blk wr Nm (bv D) ∧ Hid (∀ j, j < 11 → wr.cell? ⟨bk, j, none⟩ = some (.string (keyS T j))) ∧ Hid (∀ j, j < 256 → wr.cell? ⟨bs, j, none⟩ = some (bt (g8 T (432 + j)))) ∧ Fr [] w wr) (fun iv _ => 16 - (intOf iv).toNat)
        case' atStart => exact ⟨0, by omega, rfl, e1, e2, e3, e4, g9⟩
        case' round =>
          obtain ⟨i, hi, rfl, d1, d2, hk, hd, g⟩ := hrel
          clear e1 e2 e3 e4 g9
          by_cases hli : i < 16
          · have hd2 : decide ((i : Int) < 16) = true := by simp; omega
            obtain ⟨J, hJ⟩ : ∃ J, gx i = J := ⟨_, rfl⟩
            obtain ⟨A, hA⟩ : ∃ A, g8 D i = A := ⟨_, rfl⟩
            obtain ⟨B, hB⟩ : ∃ B, g8 T (432 + A.toNat) = B := ⟨_, rfl⟩
            have hx := A.toNat_lt
            have hx2 : A.toNat < 256 := hx
            have k1 : wr.cell? ⟨Nm, i, none⟩ = some (bt A) := by rw [d2.cell, bv_getElem?, g8_eq D i (by rw [HD.out]; omega), hA]; rfl
            have k2 : wr.cell? ⟨bs, A.toNat, none⟩ = some (bt B) := by rw [hd.out _ hx2, hB]
            have hnx := hid (show ushI T D (List.replicate 16 0) (i + 1) = (ushI T D (List.replicate 16 0) i).set J B by rw [ushI_succ, hJ, hA, hB])
            have hJ16 : J < 16 := by rw [← hJ]; unfold gx; omega
            have Hl := hid (show (ushI T D (List.replicate 16 0) i).length = 16 by rw [ushI_len, List.length_replicate])
            unfold gx at hJ
            have m1 : (4 * (((i : Int) / 4 + (i : Int)) % 4) + (i : Int) % 4).toNat = J := by rw [gxi i hli, hJ]
            have m2 : (A.toNat : Int) < 256 := by omega
            have m3 : 4 * (((i : Int) / 4 + (i : Int)) % 4) + (i : Int) % 4 < 16 := by omega
            clear hA hB hJ
            obtain ⟨L, hL⟩ : ∃ L, ushI T D (List.replicate 16 0) i = L := ⟨_, rfl⟩
            rw [hL] at d1 Hl hnx
            clear hL
            go_wp2_with (refine wpList_put rfl _ _ _ rfl rfl (bt B) rfl rfl d1 (by rw [bv_length, Hl.out]; exact hJ16) (by kernel_rfl) ?_; intro w8 f8 b8 hs8; rw [← bv_set, ← hnx.out] at b8; simp only [World.size_alloc, World.size_drew, Act.put, List.setIfInBounds_toArray, List.set_cons_succ, List.set_cons_zero])
            go_roundw
            case rel => exact ⟨i + 1, by omega, by go_num, b8, f8.blk d2 (by simp; omega), hid (cells_keep hk.out f8 (g.lt hkl) (by simp; omega)), hid (cells_keep hd.out f8 (g.lt hsl) (by simp; omega)), g.trans f8 (by simp; omega)⟩
            case measure => simp [intOf]; omega
          · have hd2 : decide ((i : Int) < 16) = false := by simp; omega
            have ei : i = 16 := by omega
            rw [ei, ush_any T D _ (by rw [List.length_replicate]), ← HE2.out] at d1
            have Hl := hid (show (bkR T S (10 - (r - 1))).length = 16 from bkR_len _ _ HSl.out _)
            clear ei hli hi
            obtain ⟨q, rfl⟩ : ∃ q, r = q + 1 := ⟨r - 1, by omega⟩
            rw [Nat.add_sub_cancel] at d1 Hl
            clear HE2 HC hlt
            go_wp2_with fail
            go_roundw
            case rel => exact ⟨q, by omega, by go_num, Sb.of' d1 Hl.out (by decide) (by decide), hk, hd, g⟩
            case measure => simp [intOf]
    · have er : r = 0 := by omega
      have hd1 : decide ((1 : Int) ≤ (r : Int)) = false := by simp; omega
      have k0 := hk.out 0 (by decide)
      rw [er] at b1 hCl
      clear er hlt
      go_wp2_with fail
      refine (rwith_any (keyS T 0) b1 hCl (by show (rk T 0).toArray.size = 16; rw [List.size_toArray]; exact Hrl.out 0 (by decide))).mono ?_
      rintro e w2 ⟨N2, rfl, hN2, hge2, f2⟩
      have b2 : Blk w2 N2 (bv (backS T S)) := hN2
      clear hN2 b1
      go_wp2_with (refine wpList_string_of_bytes rfl 32 9 5 _ rfl 16 16 rfl b2 (backS T S) (backS_len T S) (by rw [List.drop_zero, backS_len, ← bvl (backS_len T S), List.take_length]) Try.underlying32 Try.underlying5 Try.underlying9 ?_; simp only [World.size_alloc, World.size_drew, Act.put, List.setIfInBounds_toArray, List.set_cons_succ, List.set_cons_zero])
      go_ret
      exact ⟨rfl, f.trans' f2⟩
end Go.Proofs.Ytnkcogaaajkplaa
